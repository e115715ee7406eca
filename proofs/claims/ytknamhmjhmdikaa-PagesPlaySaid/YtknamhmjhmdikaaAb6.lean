/- A frame for walks over what values stand for, part Ab6. -/
import Derived.Test.YtknamhmjhmdikaaAbM
namespace Go.Ab
section
variable {P : Program} {G : Glo} {w : World}
theorem abound_sound {O : Nat → Prop} {ρ : Env} {a : Act} {dflt most r : Nat} {o : Option Operand} (h : abound (xv G ρ) dflt most o = some r) (hx : ∀ x, o = some x → Rep w O (xv G ρ x) (a.eval x)) :
    (o = none ∧ r = dflt) ∨ ∃ x k, o = some x ∧ a.eval x = .int k r ∧ r ≤ most := by
  unfold abound at h
  split at h
  · cases h; exact .inl ⟨rfl, rfl⟩
  · rename_i x
    split at h
    · rename_i k i hi
      split at h
      · rename_i hb
        cases h
        have hr := hx x rfl
        rw [hi] at hr
        refine .inr ⟨x, k, rfl, ?_, by omega⟩
        rw [rep_int hr, Int.toNat_of_nonneg hb.1]
      · cases h
    · cases h
theorem run_sliceBounds {O : Nat → Prop} {ρ : Env} {a : Act} {len cap hh l : Nat} {lo hi : Option Operand} (isS : Bool) (hlc : len ≤ cap)
    (h1 : abound (xv G ρ) len len hi = some hh) (h2 : abound (xv G ρ) 0 hh lo = some l)
    (hx1 : ∀ x, hi = some x → Rep w O (xv G ρ x) (a.eval x)) (hx2 : ∀ x, lo = some x → Rep w O (xv G ρ x) (a.eval x)) :
    (Instr.sliceBounds isS len cap (lo.map a.eval) (hi.map a.eval) none).run P w = .ok (l, hh, cap) w ∧ l ≤ hh ∧ hh ≤ len := by
  have e1 := abound_sound h1 hx1
  have e2 := abound_sound h2 hx2
  have key1 : (hi.map a.eval = none ∧ hh = len) ∨ ∃ k, hi.map a.eval = some (.int k hh) ∧ hh ≤ len := by
    rcases e1 with ⟨rfl, rfl⟩ | ⟨x, k, rfl, hx, hle⟩
    · exact .inl ⟨rfl, rfl⟩
    · exact .inr ⟨k, by simp [hx], hle⟩
  have key2 : (lo.map a.eval = none ∧ l = 0) ∨ ∃ k, lo.map a.eval = some (.int k l) ∧ l ≤ hh := by
    rcases e2 with ⟨rfl, rfl⟩ | ⟨x, k, rfl, hx, hle⟩
    · exact .inl ⟨rfl, rfl⟩
    · exact .inr ⟨k, by simp [hx], hle⟩
  refine ⟨?_, by rcases key2 with ⟨_, rfl⟩ | ⟨_, _, h⟩ <;> omega, by rcases key1 with ⟨_, rfl⟩ | ⟨_, _, h⟩ <;> omega⟩
  rcases key1 with ⟨e, rfl⟩ | ⟨k, e, hle⟩ <;> rcases key2 with ⟨e', rfl⟩ | ⟨k', e', hle'⟩ <;>
    simp only [Instr.sliceBounds, e, e', Sem.run_bind, Sem.run_pure, Result.andThen_ok, Instr.sliceBound, asIntOf, Sem.run_ite]
  · rw [if_pos (by omega)]; simp
  · rw [if_pos (by omega)]; simp
  · rw [if_pos (by omega)]; simp only [Result.andThen_ok]; rw [if_pos (by omega)]; simp
theorem run_sliceBounds3 {O : Nat → Prop} {ρ : Env} {a : Act} {len cap c hh l mm : Nat} {lo : Option Operand} {hi mx : Operand} (isS : Bool) (hc : c ≤ cap)
    (h0 : abound (xv G ρ) 0 c (some mx) = some mm) (h1 : abound (xv G ρ) 0 mm (some hi) = some hh) (h2 : abound (xv G ρ) 0 hh lo = some l)
    (hx0 : Rep w O (xv G ρ mx) (a.eval mx)) (hx1 : Rep w O (xv G ρ hi) (a.eval hi)) (hx2 : ∀ x, lo = some x → Rep w O (xv G ρ x) (a.eval x)) :
    (Instr.sliceBounds isS len cap (lo.map a.eval) (some (a.eval hi)) (some (a.eval mx))).run P w = .ok (l, hh, mm) w ∧ l ≤ hh ∧ hh ≤ mm ∧ mm ≤ c := by
  have e0 := abound_sound h0 (O := O) (a := a) (w := w) (fun x hx => by cases hx; exact hx0)
  have e1 := abound_sound h1 (O := O) (a := a) (w := w) (fun x hx => by cases hx; exact hx1)
  have e2 := abound_sound h2 hx2
  rcases e0 with ⟨e, _⟩ | ⟨x, k, e, hx, hle⟩
  · cases e
  · cases e
    rcases e1 with ⟨e, _⟩ | ⟨x', k', e, hx', hle'⟩
    · cases e
    · cases e
      have key2 : (lo.map a.eval = none ∧ l = 0) ∨ ∃ k, lo.map a.eval = some (.int k l) ∧ l ≤ hh := by
        rcases e2 with ⟨rfl, rfl⟩ | ⟨x, k, rfl, hx, hle⟩
        · exact .inl ⟨rfl, rfl⟩
        · exact .inr ⟨k, by simp [hx], hle⟩
      refine ⟨?_, by rcases key2 with ⟨_, rfl⟩ | ⟨_, _, h⟩ <;> omega, hle', hle⟩
      rcases key2 with ⟨e', rfl⟩ | ⟨k2, e', hle2⟩ <;>
        simp only [Instr.sliceBounds, hx, hx', e', Sem.run_bind, Sem.run_pure, Result.andThen_ok, Instr.sliceBound, asIntOf, Sem.run_ite]
      · rw [if_pos (by omega)]; simp only [Result.andThen_ok]; rw [if_pos (by omega)]; simp
      · rw [if_pos (by omega)]; simp only [Result.andThen_ok]; rw [if_pos (by omega)]; simp only [Result.andThen_ok]; rw [if_pos (by omega)]; simp
theorem ro_part {O : Nat → Prop} {b o off n sz : Nat} {cs : Nat → Value} {cells : List AV} {p : Option Addr} {cap : Nat} (hlc : n ≤ cap) (hb : b < w.heap.size) (hO : ¬ O b)
    (h1 : ∀ i v, cells[i]? = some v → w.cell? ⟨b, o + i, none⟩ = some (cs i) ∧ (cs i).oneCell' = true) (h2 : ∀ i v, cells[i]? = some v → Rep w O v (cs i))
    (hp : n = 0 ∨ p = some ⟨b, o + off, none⟩) : Rep w O (.ro ((cells.drop off).take (n * sz)) n) (.slice p n cap) := by
  rcases hp with rfl | rfl
  · simp only [Nat.zero_mul, List.take_zero]
    exact .roe p cap
  · refine .ro _ n cap b (o + off) (fun i => cs (off + i)) hlc hb hO (fun i v hv => ?_) (fun i v hv => ?_)
    · rw [List.getElem?_take] at hv
      split at hv
      · have := h1 (off + i) v (by simpa using hv)
        rwa [← Nat.add_assoc] at this
      · cases hv
    · rw [List.getElem?_take] at hv
      split at hv
      · exact h2 (off + i) v (by simpa using hv)
      · cases hv
theorem run_mapM {α β : Type} (f : α → Sem β) (g : α → β) (l : List α) (h : ∀ x ∈ l, (f x).run P w = .ok (g x) w) : (l.mapM f).run P w = .ok (l.map g) w := by
  induction l with
  | nil => simp
  | cons x r ih =>
    simp only [List.mapM_cons, Sem.run_bind, h x (by simp), Result.andThen_ok, ih (fun y hy => h y (by simp [hy])), Sem.run_pure, List.map_cons]
theorem run_mapM_array {α β : Type} (f : α → Sem β) (g : α → β) (l : Array α) (h : ∀ x ∈ l.toList, (f x).run P w = .ok (g x) w) : (l.mapM f).run P w = .ok (l.map g) w := by
  rw [Array.mapM_eq_mapM_toList, Sem.run_map, run_mapM f g l.toList h]
  simp only [Result.andThen_ok, Result.ok.injEq, and_true]
  apply Array.ext'
  simp
theorem parts_list {fs : Array Field} : ∀ (l : List (Nat × Operand)) (m : List (Nat × Nat × Operand)), (l.mapM fun (x : Nat × Operand) => (do let f ← fs[x.1]?; let n ← szOf P f.type; some (f.offset, n, x.2) : Option (Nat × Nat × Operand))) = some m →
    l.length = m.length ∧ ∀ (j : Nat) i x off n y, l[j]? = some (i, x) → m[j]? = some (off, n, y) → (∃ f, fs[i]? = some f ∧ f.offset = off ∧ szOf P f.type = some n) ∧ y = x := by
  intro l
  induction l with
  | nil => intro m hm; simp at hm; subst hm; exact ⟨rfl, fun j i x off n y h => by simp at h⟩
  | cons p r ih =>
    intro m hm
    simp only [List.mapM_cons, Option.bind_eq_bind, Option.bind_eq_some_iff, Option.some.injEq] at hm
    obtain ⟨q, ⟨f, hf, n, hn, rfl⟩, m', hm', hmm⟩ := hm
    obtain ⟨i1, i2⟩ := ih m' (by simpa using hm')
    cases hmm
    refine ⟨by simp [i1], fun j i x off n' y h1 h2 => ?_⟩
    cases j with
    | zero =>
      simp at h1 h2
      obtain ⟨rfl, rfl, rfl⟩ := h2
      subst h1
      exact ⟨⟨f, hf, rfl, hn⟩, rfl⟩
    | succ j => exact i2 j i x off n' y (by simpa using h1) (by simpa using h2)
theorem zero_rep {O : Nat → Prop} {t : TypeId} {z : List AV} (hz : zeroOf P t = some z) :
    ∃ zv : Value, (zeroValue t).run P w = .ok zv w ∧ Rep w O (.agg z) (.agg zv.cells) := by
  unfold zeroOf at hz
  cases hi : P.info? t with
  | none => simp [hi] at hz
  | some i =>
    cases hzv : i.zero with
    | none => simp [hi, hzv] at hz
    | some zv =>
      simp only [hi, Option.bind_some, hzv] at hz
      split at hz
      · rename_i hall
        cases hz
        have hz1 : ∀ x ∈ zv.cells.toList, x.oneCell' = true := List.all_eq_true.1 hall
        refine ⟨zv, by simp [zeroValue, run_typeInfo w hi, hzv], ?_⟩
        refine .agg _ _ (by simp) (fun i c hc => hz1 c (Array.mem_toList_iff.2 (Array.mem_of_getElem? hc))) (fun i v c hv hc => ?_)
        have hc' : zv.cells.toList[i]? = some c := by simpa using hc
        have : v = ofV1 c := by simpa [List.getElem?_map, hc'] using hv.symm
        rw [this]; exact rep_ofV1 c
      · cases hz
theorem build_sound {O : Nat → Prop} {ρ : Env} {a : Act} {t : TypeId} {parts : Array (Nat × Operand)} {z : List AV} {ps : List (Nat × Nat × Operand)} {out : List AV}
    (hz : zeroOf P t = some z) (hps : partsOf P t parts.toList = some ps) (hops : ∀ p ∈ parts.toList, Rep w O (xv G ρ p.2) (a.eval p.2)) (ho : afill (xv G ρ) z ps = some out) :
    ∃ c, (Instr.build t (parts.map fun (i, x) => (i, a.eval x))).run P w = .ok c w ∧ Rep w O (.agg out) c := by
  obtain ⟨zv, hzero, hzr⟩ := zero_rep (w := w) (O := O) hz
  unfold partsOf at hps
  cases hu : P.underlying t with
  | none => simp [hu] at hps
  | some u =>
    cases u <;> simp only [hu] at hps <;> try (cases hps; done)
    case struct fs =>
      split at hps
      · rename_i hall
        obtain ⟨hl, hj⟩ := parts_list parts.toList ps hps
        have hall' := List.all_eq_true.1 hall
        have hpl := run_mapM_array (P := P) (w := w) (fun (f : Field) => (do pure (f.offset, ← sizeOf f.type) : Sem (Nat × Nat))) (fun f => (f.offset, (szOf P f.type).getD 0)) fs (fun f hf => by
          obtain ⟨n, hn⟩ := Option.isSome_iff_exists.1 (hall' f hf)
          simp [run_sz hn, hn])
        obtain ⟨cs', hf, hr⟩ := afill_sound (G := G) (ρ := ρ) (a := a) (place := fun i => (fs.map fun f => (f.offset, (szOf P f.type).getD 0))[i]?) parts.toList ps z zv.cells out hl (fun j i x off n y h1 h2 => by
          obtain ⟨⟨f, hf, h3, h4⟩, h5⟩ := hj j i x off n y h1 h2
          exact ⟨by simp [hf, h3, h4], h5⟩) hops hzr ho
        refine ⟨.agg cs', ?_, hr⟩
        simp only [Instr.build, Sem.run_bind, hzero, Result.andThen_ok, run_underlying hu, hpl]
        simp only [Array.toList_map]
        rw [hf]
        simp
      · cases hps
    case array k e =>
      simp only [Option.bind_eq_bind, Option.bind_eq_some_iff, Option.some.injEq] at hps
      obtain ⟨n, hn, rfl⟩ := hps
      obtain ⟨cs', hf, hr⟩ := afill_sound (G := G) (ρ := ρ) (a := a) (place := fun i => some (i * n, n)) parts.toList _ z zv.cells out (by simp) (fun j i x off n' y h1 h2 => by
          simp only [List.getElem?_map, Option.map_eq_some_iff] at h2
          obtain ⟨⟨i', x'⟩, h3, h4⟩ := h2
          simp at h1 h3
          rw [h1] at h3
          cases h3
          simp only [Prod.mk.injEq] at h4
          obtain ⟨rfl, rfl, rfl⟩ := h4
          exact ⟨rfl, rfl⟩) hops hzr ho
      refine ⟨.agg cs', ?_, hr⟩
      simp only [Instr.build, Sem.run_bind, hzero, Result.andThen_ok, run_underlying hu, run_sz hn]
      simp only [Array.toList_map]
      rw [hf]
      simp
/-- What is appended: its cells, loaded. -/
theorem addedBy_sound {h : Heap} (hh : HRep w h) {sz m : Nat} {y : AV} {cs : List AV} (hy : addedBy h sz y = some (m, cs)) {c : Value} (hr : Rep w h.dom y c) :
    cs.length = m * sz ∧ ∃ news : List Value, RepL w h.dom cs news ∧ (∀ v ∈ news, v.oneCell' = true) ∧ (Builtin.lenOf c).run P w = .ok m w ∧
      ∀ w1 : World, w1.heap = w.heap → (Builtin.firstCells sz m c).run P w1 = .ok news.toArray w1 := by
  unfold addedBy at hy
  split at hy
  · cases hy
    rw [rep_nils hr]
    exact ⟨by simp, [], .nil, by simp, by simp [Builtin.lenOf], fun w1 _ => by simp [Builtin.firstCells]⟩
  · rename_i cells n
    split at hy
    · rename_i hl
      cases hy
      obtain ⟨p, cap, hc, _, hp⟩ := rep_ro hr
      refine ⟨hl, ?_⟩
      rcases hp with ⟨rfl, rfl⟩ | ⟨b, o, f, rfl, hb, hO, h1, h2⟩
      · refine ⟨[], .nil, by simp, by rw [hc]; simp [Builtin.lenOf], fun w1 _ => ?_⟩
        rw [hc]
        cases p with
        | none => simp [Builtin.firstCells]
        | some p => simp [Builtin.firstCells, loadCells, loadCellsFrom]
      · have hat : At w h.dom b o cs := fun i v hv => ⟨f i, (h1 i v hv).1, (h1 i v hv).2, h2 i v hv⟩
        obtain ⟨news, e1, e2, e3, e4⟩ := hat.list
        refine ⟨news, e4, e3, by rw [hc]; simp [Builtin.lenOf], fun w1 hw => ?_⟩
        rw [hc]
        exact run_firstCells_some w1 sz m _ _ _ news (by omega) fun j v hv => by
          rw [Addr.add_lit]
          have := e2 j v hv
          simpa only [World.cell?, hw] using this
    · cases hy
  · rename_i b o n cap
    split at hy
    · rename_i x hb
      split at hy
      · rename_i hle
        cases hy
        obtain ⟨p, hc, hlc, hp⟩ := rep_sl hr
        have hcl : ((x.cells.drop o).take (m * sz)).length = m * sz := by simp; omega
        refine ⟨hcl, ?_⟩
        have hat : At w h.dom b (0 + o) ((x.cells.drop o).take (m * sz)) := by
          by_cases h0 : m = 0 ∧ cap = 0
          · rw [h0.1, Nat.zero_mul, List.take_zero]; intro i v hv; cases hv
          · exact ((hh.at hb (rep_slC hr h0)).drop o).take _
        obtain ⟨news, e1, e2, e3, e4⟩ := hat.list
        refine ⟨news, e4, e3, by rw [hc]; simp [Builtin.lenOf], fun w1 hw => ?_⟩
        rw [hc]
        rcases hp with ⟨rfl, rfl⟩ | rfl
        · have : news = [] := by
            have : news.length = 0 := by rw [e1, hcl]; simp
            exact List.eq_nil_of_length_eq_zero this
          subst this
          simp [Builtin.firstCells, loadCells, loadCellsFrom]
        · exact run_firstCells_some w1 sz m _ _ _ news (by omega) fun j v hv => by
            rw [Addr.add_lit]
            have := e2 j v hv
            rw [Nat.zero_add] at this
            simpa only [World.cell?, hw] using this
      · cases hy
    · cases hy
  · rename_i s
    split at hy
    · rename_i h1
      cases hy
      subst h1
      rw [rep_str hr]
      have hdl : s.data.toList.length = s.size := by simp
      refine ⟨by simp, s.data.toList.map fun c => .int .u8 c.toNat, ⟨by simp, fun i a v ha hv => ?_⟩, by simp [Value.oneCell'], by simp [Builtin.lenOf], fun w1 _ => ?_⟩
      · simp only [List.getElem?_map, Option.map_eq_some_iff] at ha hv
        obtain ⟨c, h1, rfl⟩ := ha
        obtain ⟨d, h2, rfl⟩ := hv
        rw [h1] at h2
        cases h2
        exact .int _ _
      · simp only [Builtin.firstCells, Sem.run_pure]
        congr 1
        have e : s.extract 0 s.size = s := by simp
        rw [e]
        apply Array.ext'
        simp
    · cases hy
  · cases hy
theorem intsOf_rep {O : Nat → Prop} : ∀ (cells : List AV) (cs : List Value) (ns : List Int), RepL w O cells cs → intsOf cells = some ns → cs = ns.map (.int .u8) := by
  intro cells
  induction cells with
  | nil => intro cs ns hr h; simp [intsOf] at h; subst h; exact List.eq_nil_of_length_eq_zero hr.1.symm
  | cons a r ih =>
    intro cs ns hr h
    cases cs with
    | nil => have := hr.1; simp at this
    | cons c s =>
      have h0 := hr.2 0 a c rfl rfl
      have hs : RepL w O r s := ⟨by simpa using hr.1, fun i x y hx hy => hr.2 (i + 1) x y (by simpa using hx) (by simpa using hy)⟩
      cases a <;> (try (simp only [intsOf] at h; cases h; done))
      rename_i k n
      cases k <;> (try (simp only [intsOf] at h; cases h; done))
      simp only [intsOf] at h
      obtain ⟨m, hm, rfl⟩ := Option.map_eq_some_iff.1 h
      rw [ih s m hs hm, rep_int h0]
      rfl
/-- An operation that only looks, run: what it yields is as told. -/
theorem evR_sound (o : Oper) {k : RK} (ht : trK P o.op = some (.r k)) {a : Act} {ρ : Env} {h : Heap} (hh : HRep w h)
    (hx : ∀ x : Operand, x ∈ o.op.operands → Rep w h.dom (xv G ρ x) (a.eval x)) {v : AV} (hv : evR G k ρ h = some v) :
    ∃ c, (execOp a.eval o).run P w = .ok (.value c) w ∧ Rep w h.dom v c := by
  obtain ⟨dst, op, type, pos, after, guard⟩ := o
  simp only at ht hx
  cases op <;> simp only [trK] at ht
  case move x =>
    cases ht; cases hv
    exact ⟨_, rfl, hx x (by simp [Op.operands])⟩
  case pick c x y =>
    cases ht
    simp only [evR] at hv
    split at hv
    · rename_i t hc
      cases hv
      have hc' := hx c (by simp [Op.operands])
      rw [hc] at hc'
      refine ⟨if t then a.eval x else a.eval y, ?_, ?_⟩
      · simp only [execOp, rep_bool hc', asBool, Sem.run_bind, Sem.run_pure, Result.andThen_ok]
      · cases t
        · simpa using hx y (by simp [Op.operands])
        · simpa using hx x (by simp [Op.operands])
    · cases hv
  case build t parts =>
    simp only [Option.bind_eq_bind, Option.bind_eq_some_iff, Option.some.injEq, K.r.injEq] at ht
    obtain ⟨z, hz, ps, hps, rfl⟩ := ht
    simp only [evR] at hv
    obtain ⟨out, ho, rfl⟩ := Option.map_eq_some_iff.1 hv
    obtain ⟨c, h1, h2⟩ := build_sound (G := G) (w := w) (O := h.dom) (ρ := ρ) (a := a) hz hps (fun p hp => hx p.2 (by simp [Op.operands]; exact ⟨p.1, by simpa using hp⟩)) ho
    exact ⟨c, by simp only [execOp, Sem.run_bind, h1, Result.andThen_ok, Sem.run_pure], h2⟩
  case load t x =>
    obtain ⟨n, hn, hk⟩ := Option.map_eq_some_iff.1 ht
    cases hk
    obtain ⟨c, h1, h2⟩ := ald_sound (P := P) hh hv (hx x (by simp [Op.operands])) hn
    exact ⟨c, by simp only [execOp, Sem.run_bind, h1, Result.andThen_ok, Sem.run_pure], h2⟩
  case nilCheck x =>
    cases ht
    simp only [evR] at hv
    have hr := hx x (by simp [Op.operands])
    split at hv
    · rename_i b o he
      cases hv
      rw [he] at hr
      exact ⟨_, by simp only [execOp, rep_ptr hr]; rfl, .ptr b o (rep_ptrC hr)⟩
    · rename_i cells o he
      cases hv
      rw [he] at hr
      obtain ⟨b, o', cs, hc, _⟩ := rep_cp hr
      exact ⟨a.eval x, by simp only [execOp, hc]; rfl, hr⟩
    · cases hv
  case binOp op t x y yt =>
    have hrx := hx x (by simp [Op.operands])
    have hry := hx y (by simp [Op.operands])
    have fin : ∀ {v : AV}, (∃ r, (do eqGuard op t x y (a.eval x) (a.eval y); binOp op t (a.eval x) (a.eval y) : Sem Value).run P w = .ok r w ∧ Rep w h.dom v r) →
        ∃ c, (execOp a.eval { dst, op := .binOp op t x y yt, type, pos, after, guard }).run P w = .ok (.value c) w ∧ Rep w h.dom v c := by
      rintro v ⟨r, h1, h2⟩
      exact ⟨r, by simp only [execOp]; rw [Sem.run_bind, h1]; rfl, h2⟩
    unfold trBin at ht
    split at ht
    · rename_i k hu
      cases ht
      refine fin ?_
      obtain ⟨r, h1, h2⟩ := abin_sound (P := P) (w := w) hv hrx hry t
      exact ⟨r, by rw [Sem.run_bind, guard_int (abin_left hv hrx)]; exact h1, h2⟩
    · rename_i hu
      cases ht
      refine fin ?_
      obtain ⟨r, h1, h2⟩ := abin_sound (P := P) (w := w) hv hrx hry t
      exact ⟨r, by rw [Sem.run_bind, guard_int (abin_left hv hrx)]; exact h1, h2⟩
    · rename_i hu
      have key : ∀ neg, abeq neg (xv G ρ x) (xv G ρ y) = some v → ∃ r, (do eqGuard (if neg then .neq else .eql) t x y (a.eval x) (a.eval y); binOp (if neg then .neq else .eql) t (a.eval x) (a.eval y) : Sem Value).run P w = .ok r w ∧ Rep w h.dom v r := by
        intro neg hv
        unfold abeq at hv
        split at hv
        · rename_i p q hp hq
          cases hv
          rw [hp] at hrx
          rw [hq] at hry
          rw [rep_bool hrx, rep_bool hry]
          cases neg
          · exact ⟨_, by simp only [Bool.false_eq_true, if_false, Sem.run_bind]; rw [show (eqGuard .eql t x y (.bool p) (.bool q)).run P w = .ok () w from rfl]; exact run_eql_bool w t p q hu, by simpa using Rep.bool (p == q)⟩
          · refine ⟨_, by simp only [if_true, Sem.run_bind]; rw [show (eqGuard .neq t x y (.bool p) (.bool q)).run P w = .ok () w from rfl]; exact run_neq_bool w t p q hu, ?_⟩
            have : ((p == q) != true) = !(p == q) := by cases p <;> cases q <;> rfl
            rw [this]; exact .bool _
        · cases hv
      split at ht
      · cases ht; exact fin (key false hv)
      · cases ht; exact fin (key true hv)
      · cases ht
    · rename_i e hu
      have hpt : P.underlying t = some (.pointer (P.pointee t)) := by rw [hu]; simp [Program.pointee, hu]
      have key : ∀ neg, peq neg (xv G ρ x) (xv G ρ y) = some v → ∃ r, (do eqGuard (if neg then .neq else .eql) t x y (a.eval x) (a.eval y); binOp (if neg then .neq else .eql) t (a.eval x) (a.eval y) : Sem Value).run P w = .ok r w ∧ Rep w h.dom v r := by
        intro neg hv
        have go : ∀ (p : Option Addr), a.eval x = .pointer p → a.eval y = .pointer none → v = .bool (p.isNone != neg) →
            ∃ r, (do eqGuard (if neg then .neq else .eql) t x y (a.eval x) (a.eval y); binOp (if neg then .neq else .eql) t (a.eval x) (a.eval y) : Sem Value).run P w = .ok r w ∧ Rep w h.dom v r := by
          intro p h1 h2 h3
          rw [h1, h2, h3]
          cases neg
          · exact ⟨_, by simp only [Bool.false_eq_true, if_false, Sem.run_bind]; rw [show (eqGuard .eql t x y (.pointer p) (.pointer none)).run P w = .ok () w from rfl]; exact run_eql_pointer_nil w t p hpt, by simpa using Rep.bool p.isNone⟩
          · refine ⟨_, by simp only [if_true, Sem.run_bind]; rw [show (eqGuard .neq t x y (.pointer p) (.pointer none)).run P w = .ok () w from rfl]; exact run_neq_pointer_nil w t p hpt, ?_⟩
            have : (p.isNone != true) = !p.isNone := by cases p <;> rfl
            rw [this]; exact .bool _
        unfold peq at hv
        split at hv
        · rename_i hp hq
          cases hv
          rw [hp] at hrx
          rw [hq] at hry
          exact go none (rep_nilp hrx) (rep_nilp hry) (by cases neg <;> rfl)
        · rename_i b o hp hq
          cases hv
          rw [hp] at hrx
          rw [hq] at hry
          exact go _ (rep_ptr hrx) (rep_nilp hry) (by cases neg <;> rfl)
        · rename_i b o hp hq
          cases hv
          rw [hp] at hrx
          rw [hq] at hry
          obtain ⟨b, o', cs, hc, _⟩ := rep_cp hrx
          exact go _ hc (rep_nilp hry) (by cases neg <;> rfl)
        · cases hv
      split at ht
      · cases ht
      · split at ht
        · cases ht; exact fin (key false hv)
        · cases ht; exact fin (key true hv)
        · cases ht
    · split at ht
      · split at ht <;> cases ht
      · cases ht
    · rename_i kt et hu
      have key : ∀ neg : Bool, y = .const (.map none) → evR G (.eqm neg x) ρ h = some v → ∃ r, (do eqGuard (if neg then .neq else .eql) t x y (a.eval x) (a.eval y); binOp (if neg then .neq else .eql) t (a.eval x) (a.eval y) : Sem Value).run P w = .ok r w ∧ Rep w h.dom v r := by
        rintro neg rfl hv
        simp only [evR] at hv
        split at hv
        · rename_i r he
          cases hv
          rw [he] at hrx
          rw [rep_mpp hrx]
          exact ⟨_, eqm_sound hu r neg x _, .bool _⟩
        · cases hv
      split at ht
      · split at ht
        · cases ht; exact fin (key false rfl hv)
        · cases ht; exact fin (key true rfl hv)
        · cases ht
      · cases ht
    · rename_i fs hu
      split at ht
      · cases ht
      · rename_i hg
        split at ht
        · cases ht
        · have ha := run_agg_of (P := P) (w := w) hu
          split at ht
          · rename_i ks hf
            cases ht
            exact fin (aeq_sound hf (by simpa using hg) (neg := false) hv hrx hry x y ha)
          · rename_i ks hf
            cases ht
            exact fin (aeq_sound hf (by simpa using hg) (neg := true) hv hrx hry x y ha)
          · cases ht
    · rename_i k e hu
      split at ht
      · cases ht
      · rename_i hg
        split at ht
        · cases ht
        · have ha := run_agg_of (P := P) (w := w) hu
          split at ht
          · rename_i ks hf
            cases ht
            exact fin (aeq_sound hf (by simpa using hg) (neg := false) hv hrx hry x y ha)
          · rename_i ks hf
            cases ht
            exact fin (aeq_sound hf (by simpa using hg) (neg := true) hv hrx hry x y ha)
          · cases ht
    · cases ht
  case unOp op t x =>
    cases ht
    have hr := hx x (by simp [Op.operands])
    simp only [evR] at hv
    unfold aun at hv
    split at hv
    · rename_i k n he
      rw [he] at hr
      have hc := rep_int hr
      split at hv
      · cases hv
        exact ⟨_, by simp only [execOp, hc, Op.unary, Op.intArith]; rfl, .int _ _⟩
      · cases hv
        exact ⟨_, by simp only [execOp, hc, Op.unary]; rfl, .int _ _⟩
      · cases hv
    · rename_i b he
      rw [he] at hr
      have hc := rep_bool hr
      split at hv
      · cases hv
        exact ⟨_, by simp only [execOp, hc, Op.unary]; rfl, .bool _⟩
      · cases hv
    · cases hv
  case convert src dst x =>
    split at ht
    · rename_i u k hs hu
      cases ht
      have hr := hx x (by simp [Op.operands])
      simp only [evR] at hv
      split at hv
      · rename_i k' n he
        cases hv
        rw [he] at hr
        have hc := rep_int hr
        refine ⟨_, ?_, .int _ _⟩
        simp only [execOp, hc, convert, Sem.run_bind, run_underlying hs, run_underlying hu, Result.andThen_ok]
        rfl
      · cases hv
    · rename_i e hs hu
      split at ht
      · rename_i he
        cases ht
        have hr := hx x (by simp [Op.operands])
        simp only [evR] at hv
        split at hv
        · cases hv
        · rename_i hns
          split at hv
          · rename_i m cells hadd
            obtain ⟨ns, hn, rfl⟩ := Option.map_eq_some_iff.1 hv
            obtain ⟨hl, news, h1, h2, h3, h4⟩ := addedBy_sound (P := P) hh hadd hr
            have hnews := intsOf_rep _ _ _ h1 hn
            have hfc := h4 w rfl
            have hshape : ∃ p cap, a.eval x = .slice p m cap := by
              generalize hxv : xv G ρ x = v0 at hr hadd hns
              unfold addedBy at hadd
              split at hadd
              · cases hadd; exact ⟨none, 0, rep_nils hr⟩
              · split at hadd
                · cases hadd
                  obtain ⟨p, cap, hc, _⟩ := rep_ro hr
                  exact ⟨p, cap, hc⟩
                · cases hadd
              · split at hadd
                · split at hadd
                  · cases hadd
                    obtain ⟨p, hc, _⟩ := rep_sl hr
                    exact ⟨some p, _, hc⟩
                  · cases hadd
                · cases hadd
              · exact (hns _ rfl).elim
              · cases hadd
            obtain ⟨p, cap, hc⟩ := hshape
            rw [hc] at hfc
            refine ⟨.string (strOf ns), ?_, .str _⟩
            simp only [execOp, hc, Sem.run_bind]
            rw [run_convert_bytes_string w src dst e p m cap hs he hu]
            cases p with
            | none =>
              simp [Builtin.firstCells] at hfc
              have : ns = [] := by rw [hnews] at hfc; simpa using hfc.symm
              subst this
              simp [Conv.bytesToString, strOf]
            | some p =>
              simp only [Builtin.firstCells, Nat.mul_one] at hfc
              rw [hnews] at hfc
              rw [run_bytesToString w p m cap ns hfc]
              simp [strOf]
          · cases hv
      · cases ht
    · cases ht
  case makeFunc fn first caps =>
    cases fn <;> simp only at ht <;> (try (cases ht; done))
    rename_i f
    cases ht
    cases hv
    refine ⟨.func (.func f) (first.map a.eval) (caps.map a.eval), rfl, .fn _ _ _ _ _ (by simp) (by simp) ?_ ?_⟩
    · intro i v c h1 h2
      simp only [List.getElem?_map, Option.map_eq_some_iff] at h1
      obtain ⟨x, h3, rfl⟩ := h1
      have h3' : first[i]? = some x := by simpa using h3
      simp only [Array.getElem?_map, h3', Option.map_some, Option.some.injEq] at h2
      subst h2
      exact hx x (by simp [Op.operands]; exact .inl (Array.mem_of_getElem? h3'))
    · intro i v c h1 h2
      simp only [List.getElem?_map, Option.map_eq_some_iff] at h1
      obtain ⟨x, h3, rfl⟩ := h1
      have h3' : caps[i]? = some x := by simpa using h3
      simp only [Array.getElem?_map, h3', Option.map_some, Option.some.injEq] at h2
      subst h2
      exact hx x (by simp [Op.operands]; exact .inr (Array.mem_of_getElem? h3'))
  case fieldAddr s x f =>
    split at ht
    · rename_i fd hfd
      split at ht
      · rename_i n hn
        cases ht
        have hr := hx x (by simp [Op.operands])
        unfold fieldOf at hfd
        split at hfd
        · rename_i fs hu
          have run : ∀ (b o : Nat), (Instr.fieldAt s (.pointer (some ⟨b, o, none⟩)) f).run P w = .ok (.pointer (some ⟨b, o + fd.offset, none⟩)) w := by
            intro b o
            simp [Instr.fieldAt, run_underlying hu, hfd, Instr.sureAddr, fieldPlace, run_sz hn, Addr.add_lit]
          simp only [evR] at hv
          split at hv
          · rename_i b o he
            cases hv
            rw [he] at hr
            exact ⟨_, by simp only [execOp, rep_ptr hr, Sem.run_bind, run, Result.andThen_ok, Sem.run_pure], .ptr b _ (rep_ptrC hr)⟩
          · rename_i cells o he
            cases hv
            rw [he] at hr
            obtain ⟨b, o', cs, hc, hb, hO, h1, h2⟩ := rep_cp hr
            refine ⟨.pointer (some ⟨b, o' + o + fd.offset, none⟩), by simp only [execOp, hc, Sem.run_bind, run, Result.andThen_ok, Sem.run_pure], ?_⟩
            rw [Nat.add_assoc]
            exact .cp cells _ b o' cs hb hO h1 h2
          · cases hv
        · cases hfd
      · cases ht
    · cases ht
  case field s x f =>
    split at ht
    · rename_i fd hfd
      obtain ⟨n, hn, hk⟩ := Option.map_eq_some_iff.1 ht
      cases hk
      have hr := hx x (by simp [Op.operands])
      unfold fieldOf at hfd
      split at hfd
      · rename_i fs hu
        simp only [evR] at hv
        split at hv
        · rename_i cells he
          rw [he] at hr
          obtain ⟨cs, c', hc, h1, h2⟩ := run_part_of (P := P) hr hv hn
          exact ⟨c', by simp only [execOp, hc, Instr.field, Sem.run_bind, run_underlying hu, Result.andThen_ok, hfd, asAgg, Sem.run_pure, h1], h2⟩
        · cases hv
      · cases hfd
    · cases ht
  case extract t i =>
    cases ht
    have hr := hx t (by simp [Op.operands])
    simp only [evR] at hv
    split at hv
    · rename_i vs he
      rw [he] at hr
      obtain ⟨cs, hc, hl, h1⟩ := rep_tup hr
      have hlt : i < vs.length := (List.getElem?_eq_some_iff.1 hv).1
      have hcs : cs[i]? = some cs[i] := Array.getElem?_eq_getElem (by omega)
      exact ⟨cs[i], by simp only [execOp, hc, Instr.extract, hcs]; rfl, h1 i v _ hv hcs⟩
    · cases hv
  case indexAddr t x i =>
    have hr := hx x (by simp [Op.operands])
    have hi := hx i (by simp [Op.operands])
    split at ht
    · rename_i n e hu
      obtain ⟨sz, hsz, hk⟩ := Option.map_eq_some_iff.1 ht
      cases hk
      simp only [evR] at hv
      have run : ∀ (b o : Nat) (k : IntKind) (j : Int), 0 ≤ j ∧ j < (n : Int) → (Instr.indexAt t (.pointer (some ⟨b, o, none⟩)) (.int k j)).run P w = .ok (.pointer (some ⟨b, o + j.toNat * sz, none⟩)) w := by
        intro b o k j hj
        simp [Instr.indexAt, asIntOf, run_underlying hu, Instr.sureAddr, hj, run_sz hsz, Addr.add_lit]
      split at hv
      · rename_i b o k j he he'
        split at hv
        · rename_i hj
          cases hv
          rw [he] at hr
          rw [he'] at hi
          exact ⟨_, by simp only [execOp, rep_ptr hr, rep_int hi, Sem.run_bind, run b o k j hj, Result.andThen_ok, Sem.run_pure], .ptr b _ (rep_ptrC hr)⟩
        · cases hv
      · rename_i cells o k j he he'
        split at hv
        · rename_i hj
          cases hv
          rw [he] at hr
          rw [he'] at hi
          obtain ⟨b, o', cs, hc, hb, hO, h1, h2⟩ := rep_cp hr
          refine ⟨.pointer (some ⟨b, o' + o + j.toNat * sz, none⟩), by simp only [execOp, hc, rep_int hi, Sem.run_bind, run b _ k j hj, Result.andThen_ok, Sem.run_pure], ?_⟩
          rw [Nat.add_assoc]
          exact .cp cells _ b o' cs hb hO h1 h2
        · cases hv
      · cases hv
    · rename_i e hu
      obtain ⟨sz, hsz, hk⟩ := Option.map_eq_some_iff.1 ht
      cases hk
      simp only [evR] at hv
      have run : ∀ (b o len cap : Nat) (k : IntKind) (j : Int), 0 ≤ j ∧ j < (len : Int) → (Instr.indexAt t (.slice (some ⟨b, o, none⟩) len cap) (.int k j)).run P w = .ok (.pointer (some ⟨b, o + j.toNat * sz, none⟩)) w := by
        intro b o len cap k j hj
        simp [Instr.indexAt, asIntOf, run_underlying hu, hj, run_sz hsz, Addr.add_lit]
      split at hv
      · rename_i b o len cap k j he he'
        split at hv
        · rename_i hj
          cases hv
          rw [he] at hr
          rw [he'] at hi
          obtain ⟨a', hc, _, h | rfl⟩ := rep_sl hr
          · omega
          · exact ⟨_, by simp only [execOp, hc, rep_int hi, Sem.run_bind, run b o len cap k j hj, Result.andThen_ok, Sem.run_pure], .ptr b _ (rep_slC hr (by omega))⟩
        · cases hv
      · rename_i cells len k j he he'
        split at hv
        · rename_i hj
          cases hv
          rw [he] at hr
          rw [he'] at hi
          obtain ⟨a', cap, hc, _, h | ⟨b, o, cs, rfl, hb, hO, h1, h2⟩⟩ := rep_ro hr
          · omega
          · exact ⟨.pointer (some ⟨b, o + j.toNat * sz, none⟩), by simp only [execOp, hc, rep_int hi, Sem.run_bind, run b o len cap k j hj, Result.andThen_ok, Sem.run_pure], .cp cells _ b o cs hb hO h1 h2⟩
        · cases hv
      · cases hv
    · cases ht
  case index t x i =>
    have hr := hx x (by simp [Op.operands])
    have hi := hx i (by simp [Op.operands])
    split at ht
    · rename_i n e hu
      simp only [Option.bind_eq_bind, Option.bind_eq_some_iff, Option.some.injEq, K.r.injEq] at ht
      obtain ⟨sz, hsz, m, hm, rfl⟩ := ht
      simp only [evR] at hv
      split at hv
      · rename_i cells k j he he'
        split at hv
        · rename_i hj
          rw [he] at hr
          rw [he'] at hi
          obtain ⟨cs, c', hc, h1, h2⟩ := run_part_of (P := P) hr hv hm
          refine ⟨c', ?_, h2⟩
          simp [execOp, hc, rep_int hi, Instr.index, asIntOf, run_underlying hu, hj, run_sz hsz, h1]
        · cases hv
      · cases hv
    · rename_i hu
      cases ht
      simp only [evR] at hv
      split at hv
      · rename_i s k j he he'
        split at hv
        · rename_i hj
          cases hv
          rw [he] at hr
          rw [he'] at hi
          have hlt : j.toNat < s.size := by omega
          have e2 : s.data.toList[j.toNat]?.getD 0 = s[j.toNat] := by
            have h2 : s.data.toList[j.toNat]? = some (s.data[j.toNat]'hlt) := by simp
            rw [h2]; rfl
          rw [e2]
          exact ⟨.int .u8 s[j.toNat].toNat, by simp [execOp, rep_str hr, rep_int hi, Instr.index, asIntOf, run_underlying hu, hj], .int _ _⟩
        · cases hv
      · cases hv
    · cases ht
  case slice t x lo hi mx =>
    cases mx with
    | some m =>
      cases hi with
      | none => simp at ht
      | some hi =>
        have hr := hx x (by simp [Op.operands])
        have hlo : ∀ y, lo = some y → Rep w h.dom (xv G ρ y) (a.eval y) := fun y hy => hx y (by simp [Op.operands, hy])
        have hhi := hx hi (by simp [Op.operands])
        have hm := hx m (by simp [Op.operands])
        simp only at ht
        split at ht
        · rename_i e hu
          obtain ⟨sz, hsz, hk⟩ := Option.map_eq_some_iff.1 ht
          cases hk
          simp only [evR] at hv
          split at hv
          · rename_i c hc
            split at hv
            · rename_i mm e0
              split at hv
              · rename_i hh e1
                split at hv
                · rename_i l e2
                  have run : ∀ (p : Option Addr) (n cap : Nat), c ≤ cap → (Instr.sliceAt t (.slice p n cap) (lo.map a.eval) (some (a.eval hi)) (some (a.eval m))).run P w = .ok (.slice (if mm = l then p else p.map (·.add (l * sz))) (hh - l) (mm - l)) w := by
                    intro p n cap hcap
                    obtain ⟨rb, _, _⟩ := run_sliceBounds3 (P := P) (w := w) (isS := true) (len := n) hcap e0 e1 e2 hm hhi hlo
                    simp [Instr.sliceAt, Instr.slice, run_underlying hu, rb, run_sz hsz]
                  obtain ⟨_, q1, q2, q3⟩ := run_sliceBounds3 (P := P) (w := w) (isS := true) (len := 0) (Nat.le_refl c) e0 e1 e2 hm hhi hlo
                  unfold aslice3 at hv
                  split at hv
                  · rename_i b o n' cap he
                    cases hv
                    rw [he] at hr hc
                    simp only [acap, Option.some.injEq] at hc
                    subst hc
                    obtain ⟨p, hc, hlc, hp⟩ := rep_sl hr
                    refine ⟨.slice (if mm = l then some p else (some p).map (·.add (l * sz))) (hh - l) (mm - l), by simp only [execOp, hc, Option.map_some, Sem.run_bind, run (some p) n' cap (Nat.le_refl _), Result.andThen_ok, Sem.run_pure], ?_⟩
                    by_cases hn : mm = l
                    · rw [show hh - l = 0 by omega, show mm - l = 0 by omega, if_pos hn]
                      exact .sl0 _ _ _
                    · rw [if_neg hn]
                      rcases hp with hp | rfl
                      · exact absurd hp.2 (by omega)
                      · simp only [Option.map_some, Addr.add_lit]
                        exact .sl _ _ _ _ (by omega) (rep_slC hr (by omega))
                  · rename_i cells n' he
                    cases hv
                    rw [he] at hr hc
                    simp only [acap, Option.some.injEq] at hc
                    subst hc
                    obtain ⟨p, cap, hc, hlc, hp⟩ := rep_ro hr
                    refine ⟨.slice (if mm = l then p else p.map (·.add (l * sz))) (hh - l) (mm - l), by simp only [execOp, hc, Option.map_some, Sem.run_bind, run p n' cap hlc, Result.andThen_ok, Sem.run_pure], ?_⟩
                    rcases hp with hp | ⟨b, o, cs, rfl, hb, hO, h1, h2⟩
                    · rw [hp.1, show hh - l = 0 by omega]
                      simp only [List.drop_nil, List.take_nil]
                      exact .roe _ _
                    · exact ro_part (by omega) hb hO h1 h2 (by
                        by_cases hn : mm = l
                        · exact .inl (by omega)
                        · exact .inr (by rw [if_neg hn]; simp [Addr.add_lit]))
                  · rename_i he
                    cases hv
                    rw [he] at hr hc
                    simp only [acap, Option.some.injEq] at hc
                    subst hc
                    refine ⟨.slice none 0 0, ?_, .nils⟩
                    simp only [execOp, rep_nils hr, Option.map_some, Sem.run_bind, run none 0 0 (Nat.le_refl _), Result.andThen_ok, Sem.run_pure]
                    rw [show hh - l = 0 by omega, show mm - l = 0 by omega]
                    simp
                  · cases hv
                · cases hv
              · cases hv
            · cases hv
          · cases hv
        · cases ht
    | none =>
      have hr := hx x (by simp [Op.operands])
      have hlo : ∀ y, lo = some y → Rep w h.dom (xv G ρ y) (a.eval y) := fun y hy => hx y (by simp [Op.operands, hy])
      have hhi : ∀ y, hi = some y → Rep w h.dom (xv G ρ y) (a.eval y) := fun y hy => hx y (by simp [Op.operands, hy])
      simp only at ht
      split at ht
      · rename_i n e hu
        obtain ⟨sz, hsz, hk⟩ := Option.map_eq_some_iff.1 ht
        cases hk
        simp only [evR] at hv
        split at hv
        · rename_i hh e1
          split at hv
          · rename_i l e2
            obtain ⟨rb, hle, hle'⟩ := run_sliceBounds (P := P) (w := w) (isS := false) (Nat.le_refl n) e1 e2 hhi hlo
            have run : ∀ b o, (Instr.sliceAt t (.pointer (some ⟨b, o, none⟩)) (lo.map a.eval) (hi.map a.eval) none).run P w = .ok (.slice (some (if n = l then ⟨b, o, none⟩ else ⟨b, o + l * sz, none⟩)) (hh - l) (n - l)) w := by
              intro b o
              simp [Instr.sliceAt, run_underlying hu, Instr.sureAddr, rb, run_sz hsz, Addr.add_lit]
            split at hv
            · rename_i b o he
              cases hv
              rw [he] at hr
              refine ⟨.slice (some (if n = l then ⟨b, o, none⟩ else ⟨b, o + l * sz, none⟩)) (hh - l) (n - l), by simp only [execOp, rep_ptr hr, Option.map_none, Sem.run_bind, run b o, Result.andThen_ok, Sem.run_pure], ?_⟩
              by_cases hn : n = l
              · rw [show hh - l = 0 by omega, show n - l = 0 by omega]
                exact .sl0 _ _ _
              · rw [if_neg hn]
                exact .sl _ _ _ _ (by omega) (rep_ptrC hr)
            · rename_i cells o he
              cases hv
              rw [he] at hr
              obtain ⟨b, o', cs, hc, hb, hO, h1, h2⟩ := rep_cp hr
              refine ⟨.slice (some (if n = l then ⟨b, o' + o, none⟩ else ⟨b, o' + o + l * sz, none⟩)) (hh - l) (n - l), by simp only [execOp, hc, Option.map_none, Sem.run_bind, run b _, Result.andThen_ok, Sem.run_pure], ?_⟩
              exact ro_part (by omega) hb hO h1 h2 (by
                by_cases hn : n = l
                · exact .inl (by omega)
                · exact .inr (by rw [if_neg hn, Nat.add_assoc]))
            · cases hv
          · cases hv
        · cases hv
      · rename_i e hu
        obtain ⟨sz, hsz, hk⟩ := Option.map_eq_some_iff.1 ht
        cases hk
        simp only [evR] at hv
        split at hv
        · rename_i n hn
          split at hv
          · rename_i hh e1
            split at hv
            · rename_i l e2
              have run : ∀ (p : Option Addr) (cap : Nat), n ≤ cap → (Instr.sliceAt t (.slice p n cap) (lo.map a.eval) (hi.map a.eval) none).run P w = .ok (.slice (if cap = l then p else p.map (·.add (l * sz))) (hh - l) (cap - l)) w := by
                intro p cap hcap
                obtain ⟨rb, _, _⟩ := run_sliceBounds (P := P) (w := w) (isS := true) hcap e1 e2 hhi hlo
                simp [Instr.sliceAt, Instr.slice, run_underlying hu, rb, run_sz hsz]
              obtain ⟨_, hle, hle'⟩ := run_sliceBounds (P := P) (w := w) (isS := true) (Nat.le_refl n) e1 e2 hhi hlo
              unfold aslice at hv
              split at hv
              · rename_i b o n' cap he
                cases hv
                rw [he] at hr hn
                simp only [alen, Option.some.injEq] at hn
                subst hn
                obtain ⟨p, hc, hlc, hp⟩ := rep_sl hr
                refine ⟨.slice (if cap = l then some p else (some p).map (·.add (l * sz))) (hh - l) (cap - l), by simp only [execOp, hc, Option.map_none, Sem.run_bind, run (some p) cap hlc, Result.andThen_ok, Sem.run_pure], ?_⟩
                by_cases hn : cap = l
                · rw [show hh - l = 0 by omega, show cap - l = 0 by omega, if_pos hn]
                  exact .sl0 _ _ _
                · rw [if_neg hn]
                  rcases hp with hp | rfl
                  · exact absurd hp.2 (by omega)
                  · simp only [Option.map_some, Addr.add_lit]
                    exact .sl _ _ _ _ (by omega) (rep_slC hr (by omega))
              · rename_i cells n' he
                cases hv
                rw [he] at hr hn
                simp only [alen, Option.some.injEq] at hn
                subst hn
                obtain ⟨p, cap, hc, hlc, hp⟩ := rep_ro hr
                refine ⟨.slice (if cap = l then p else p.map (·.add (l * sz))) (hh - l) (cap - l), by simp only [execOp, hc, Option.map_none, Sem.run_bind, run p cap hlc, Result.andThen_ok, Sem.run_pure], ?_⟩
                rcases hp with hp | ⟨b, o, cs, rfl, hb, hO, h1, h2⟩
                · rw [hp.1, show hh - l = 0 by omega]
                  simp only [List.drop_nil, List.take_nil]
                  exact .roe _ _
                · exact ro_part (by omega) hb hO h1 h2 (by
                    by_cases hn : cap = l
                    · exact .inl (by omega)
                    · exact .inr (by rw [if_neg hn]; simp [Addr.add_lit]))
              · rename_i he
                cases hv
                rw [he] at hr hn
                simp only [alen, Option.some.injEq] at hn
                subst hn
                refine ⟨.slice none 0 0, ?_, .nils⟩
                simp only [execOp, rep_nils hr, Option.map_none, Sem.run_bind, run none 0 (Nat.le_refl _), Result.andThen_ok, Sem.run_pure]
                rw [show hh - l = 0 by omega]
                simp
              · cases hv
            · cases hv
          · cases hv
        · cases hv
      · rename_i hu
        cases ht
        simp only [evR] at hv
        split at hv
        · rename_i s he
          rw [he] at hr
          split at hv
          · rename_i hh e1
            split at hv
            · rename_i l e2
              cases hv
              obtain ⟨rb, _, _⟩ := run_sliceBounds (P := P) (w := w) (isS := false) (Nat.le_refl _) e1 e2 hhi hlo
              refine ⟨.string (s.extract l hh), ?_, .str _⟩
              simp [execOp, rep_str hr, Instr.sliceAt, Instr.slice, run_underlying hu, rb]
            · cases hv
          · cases hv
        · cases hv
      · cases ht
  case call c =>
    obtain ⟨callee, args, argTypes⟩ := c
    unfold trCall at ht
    cases callee with
    | value f =>
      cases f <;> simp only at ht <;> (try (cases ht; done))
      split at ht
      · split at ht <;> cases ht
      · cases ht
    | invoke r m => simp at ht
    | builtin b =>
      simp only at ht
      have hargs : ∀ y ∈ args.toList, Rep w h.dom (xv G ρ y) (a.eval y) := fun y hy => hx y (by simp [Op.operands, Call.operands]; simpa using hy)
      unfold trBuiltin at ht
      split at ht
      · rename_i x t e1 e2
        have ea : args = #[x] := Array.toList_inj.1 (by simpa using e1)
        have et : argTypes = #[t] := Array.toList_inj.1 (by simpa using e2)
        subst ea
        subst et
        have hr := hargs x (by simp)
        have run : ∀ n, (Builtin.len_ #[t] type #[a.eval x]).run P w = .ok (goInt n) w → (execOp a.eval { dst, op := .call ⟨.builtin .len, #[x], #[t]⟩, type, pos, after, guard }).run P w = .ok (.value (.int .i64 n)) w := by
          intro n hn
          simp [execOp, resolve, invoke, builtin, hn, goInt]
        split at ht
        · rename_i hu
          cases ht
          simp only [evR] at hv
          split at hv
          · rename_i s he
            cases hv
            rw [he] at hr
            exact ⟨_, run s.size (by rw [rep_str hr]; simp [Builtin.len_, run_underlying hu, goInt]), .int _ _⟩
          · cases hv
        · rename_i e hu
          cases ht
          simp only [evR] at hv
          obtain ⟨n, hn, rfl⟩ := Option.map_eq_some_iff.1 hv
          refine ⟨_, run n ?_, .int _ _⟩
          have hl : ∃ p cap, a.eval x = .slice p n cap := by
            unfold alen at hn
            split at hn
            · rename_i he
              cases hn
              rw [he] at hr
              obtain ⟨p, hc, _⟩ := rep_sl hr
              exact ⟨some p, _, hc⟩
            · rename_i he
              cases hn
              rw [he] at hr
              obtain ⟨p, cap, hc, _⟩ := rep_ro hr
              exact ⟨p, cap, hc⟩
            · rename_i he
              cases hn
              rw [he] at hr
              exact ⟨none, 0, rep_nils hr⟩
            · cases hn
          obtain ⟨p, cap, hc⟩ := hl
          rw [hc]
          simp [Builtin.len_, run_underlying hu, goInt]
        · rename_i n e hu
          cases ht
          cases hv
          refine ⟨_, run n ?_, .int _ _⟩
          simp [Builtin.len_, run_underlying hu, goInt]
        · rename_i kt et hu
          cases ht
          simp only [evR] at hv
          obtain ⟨⟨es, tm⟩, hm, rfl⟩ := Option.map_eq_some_iff.1 hv
          refine ⟨_, run es.size ?_, .int _ _⟩
          rcases mapAt_sound hh hm hr with ⟨e, rfl⟩ | ⟨b, e, hb⟩
          · rw [e]; simp [Builtin.len_, run_underlying hu, goInt]
          · rw [e]; simp [Builtin.len_, run_underlying hu, MapKept.run_getObj_map hb, goInt]
        · cases ht
      · rename_i x y e1
        have ea : args = #[x, y] := Array.toList_inj.1 (by simpa using e1)
        subst ea
        cases ht
        simp only [evR] at hv
        split at hv
        · rename_i k p k' q he he'
          cases hv
          have hrx := hargs x (by simp)
          have hry := hargs y (by simp)
          rw [he] at hrx
          rw [he'] at hry
          refine ⟨.int k (if q < p then q else p), ?_, .int _ _⟩
          simp [execOp, resolve, invoke, builtin, rep_int hrx, rep_int hry, Builtin.min_, Builtin.min2]
        · cases hv
      · rename_i x y e1
        have ea : args = #[x, y] := Array.toList_inj.1 (by simpa using e1)
        subst ea
        cases ht
        simp only [evR] at hv
        split at hv
        · rename_i k p k' q he he'
          cases hv
          have hrx := hargs x (by simp)
          have hry := hargs y (by simp)
          rw [he] at hrx
          rw [he'] at hry
          refine ⟨.int k (if q > p then q else p), ?_, .int _ _⟩
          simp [execOp, resolve, invoke, builtin, rep_int hrx, rep_int hry, Builtin.max_, Builtin.max2]
        · cases hv
      · split at ht
        · split at ht
          · split at ht
            · split at ht <;> cases ht
            · cases ht
          · cases ht
        · split at ht
          · split at ht
            · split at ht <;> cases ht
            · cases ht
          · cases ht
        · cases ht
      · split at ht
        · split at ht <;> cases ht
        · cases ht
      · obtain ⟨_, _, hk⟩ := Option.map_eq_some_iff.1 ht
        cases hk
      · cases ht
  case lookup t x i ok =>
    split at ht
    · rename_i k e hm
      obtain ⟨z, hz, hk⟩ := Option.map_eq_some_iff.1 ht
      cases hk
      simp only [evR] at hv
      split at hv
      · rename_i es tm k' n h1 h2
        obtain ⟨r, hf, rfl⟩ := Option.map_eq_some_iff.1 hv
        have hri := hx i (by simp [Op.operands])
        rw [h2] at hri
        obtain ⟨c, hc, hr⟩ := lkp_sound hh hm hz (ok := ok) h1 hf (hx x (by simp [Op.operands]))
        exact ⟨c, by simp only [execOp, rep_int hri, Sem.run_bind, hc, Result.andThen_ok, Sem.run_pure], hr⟩
      · cases hv
    · cases ht
  case makeMap t r =>
    cases r
    · simp only at ht
      split at ht <;> cases ht
    · cases ht
  case mapUpdate t m i v =>
    obtain ⟨_, _, hk⟩ := Option.map_eq_some_iff.1 ht
    cases hk
  case insert t m i v =>
    obtain ⟨_, _, hk⟩ := Option.map_eq_some_iff.1 ht
    cases hk
  case makeSlice t x y =>
    split at ht
    · split at ht
      · split at ht
        · split at ht <;> cases ht
        · cases ht
      · cases ht
    · cases ht
  case alloc t => cases h' : zeroOf P t <;> simp [h'] at ht
  case store t x y => cases h' : szOf P t <;> simp [h'] at ht
  case buildSlice t n parts =>
    split at ht
    · simp only [Option.bind_eq_bind, Option.bind_eq_some_iff] at ht
      obtain ⟨z, _, m, _, hk⟩ := ht
      split at hk <;> cases hk
    · cases ht
  all_goals cases ht
end
end Go.Ab
