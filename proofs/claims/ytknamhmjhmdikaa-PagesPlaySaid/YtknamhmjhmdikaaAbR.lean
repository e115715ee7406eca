/- A frame for walks over what values stand for, part AbR: a range over a function. -/
import Derived.Test.YtknamhmjhmdikaaAbW
namespace Go.Ab
section
variable {P : Program}
theorem isC_putObj {w : World} {D : Nat} {o o' : Obj} (ho : w.heap[D]? = some o) (hn : o.isCells = false) (b : Nat) (hk : isC w b) : isC (w.putObj D o') b := by
  by_cases e : b = D
  · subst e; rw [isC_not hk ho] at hn; cases hn
  · obtain ⟨c, t, f, e'⟩ := hk
    exact ⟨c, t, f, (World.putObj_heap_other e).trans e'⟩
theorem cell_ne {w : World} {D : Nat} {o : Obj} (ho : w.heap[D]? = some o) (hn : o.isCells = false) {b i : Nat} {v : Value} (hc : w.cell? ⟨b, i, none⟩ = some v) (_ho1 : v.oneCell' = true) {o' : Obj} : (w.putObj D o').cell? ⟨b, i, none⟩ = some v := by
  by_cases e : b = D
  · subst e
    simp only [World.cell?, ho] at hc
    cases o <;> simp_all [Obj.isCells]
  · rw [← hc]
    exact cell_of_heap (World.putObj_heap_other e)
/-- An object that nobody owns, and that is no cells, turns. -/
theorem Rep.putU {w : World} {O : Nat → Prop} {D : Nat} {o o' : Obj} (ho : w.heap[D]? = some o) (hn : o.isCells = false) {a : AV} {v : Value} (h : Rep w O a v) : Rep (w.putObj D o') O a v := by
  have hsz : (w.putObj D o').heap.size = w.heap.size := by simp [World.putObj]
  induction h with
  | any v => exact .any v
  | int k n => exact .int k n
  | bool b => exact .bool b
  | str s => exact .str s
  | nilp => exact .nilp
  | ptr b off hk => exact .ptr b off (isC_putObj ho hn b hk)
  | cp cells off b o2 cs hb hO hc hr ih => exact .cp cells off b o2 cs (by rw [hsz]; exact hb) hO (fun i v hv => ⟨cell_ne ho hn (hc i v hv).1 (hc i v hv).2, (hc i v hv).2⟩) (fun i v hv => ih i v hv)
  | nils => exact .nils
  | sl b off len cap hlc hk => exact .sl b off len cap hlc (isC_putObj ho hn b hk)
  | sl0 b off a => exact .sl0 b off a
  | roe a cap => exact .roe a cap
  | ro cells len cap b o2 cs hlc hb hO hc hr ih => exact .ro cells len cap b o2 cs hlc (by rw [hsz]; exact hb) hO (fun i v hv => ⟨cell_ne ho hn (hc i v hv).1 (hc i v hv).2, (hc i v hv).2⟩) (fun i v hv => ih i v hv)
  | agg cells cs hl h1 hr ih => exact .agg cells cs hl h1 ih
  | tup vs cs hl hr ih => exact .tup vs cs hl ih
  | fn f first caps as cs hl hl' hr hr' ih ih' => exact .fn f first caps as cs hl hl' ih ih'
  | nilf => exact .nilf
  | mpp r => exact .mpp r
  | yl l => exact .yl l
theorem HRep.putU {w : World} {h : Heap} (hh : HRep w h) {D : Nat} {o o' : Obj} (hD : h D = none) (ho : w.heap[D]? = some o) (hn : o.isCells = false) : HRep (w.putObj D o') h := by
  intro b x hb
  have hne : b ≠ D := by rintro rfl; rw [hD] at hb; cases hb
  rcases hh b x hb with ⟨c, t, e1, e2, e3⟩ | ⟨o2, e1, e2, e3⟩
  · refine .inl ⟨c, t, (World.putObj_heap_other hne).trans e1, e2, fun i v hv => ?_⟩
    obtain ⟨cv, e4, e5, e6⟩ := e3 i v hv
    exact ⟨cv, e4, e5, e6.putU ho hn⟩
  · exact .inr ⟨o2, e1, e2, (World.putObj_heap_other hne).trans e3⟩
/-- A new object that nobody owns. -/
theorem hrep_skip {w : World} {h : Heap} (hh : HRep w h) (o : Obj) (hn : o.isCells = false) : h w.heap.size = none ∧ HRep (w.alloc o) h ∧ Fr w h (w.alloc o) h := by
  obtain ⟨k1, k2, k3⟩ := hrep_new_obj hh (w1 := w.alloc o) (o := o) (x := ⟨[.raw o], 0⟩) rfl ⟨rfl, rfl, rfl⟩ (fun _ => .inr ⟨o, rfl, hn, World.alloc_heap_new w o⟩)
  obtain ⟨l1, l2⟩ := hrep_less (h' := h) k2 (fun b x hb => by
    have : b ≠ w.heap.size := by rintro rfl; rw [k1] at hb; cases hb
    simp [upd, this, hb])
  exact ⟨k1, l1, k3.trans l2⟩
end
section
variable (P : Program) (G : Glo) (N : Nat)
abbrev lpB (r : Loop) : Blk := ⟨[.raw (.loop r)], 0⟩
def lpBusy (r : Loop) : Loop := { r with state := .busy }
def lpEnds (r : Loop) (c : Option Code) : Loop := { r with state := if c.isNone then .ready else .done, pending := c }
/-- What a round leaves. -/
def rndQ (l : Nat) (r : Loop) (Q : AV → Heap → Prop) : Exit → Env → Heap → Prop
  | .normal, _, h => h l = some (lpB (lpBusy r)) ∧ Q (.bool true) (upd h l (lpB r))
  | .ret, _, h => h l = some (lpB (lpBusy r)) ∧ Q (.bool false) (upd h l (lpB (lpEnds r (some .ret))))
  | .exit id, _, h => h l = some (lpB (lpBusy r)) ∧ Q (.bool false) (upd h l (lpB (lpEnds r (some (.exit id)))))
  | _, _, _ => False
def asgQ (l : Nat) (r : Loop) (b : ACode) (Q : AV → Heap → Prop) : Exit → Env → Heap → Prop
  | .normal, ρ, h => h l = some (lpB r) ∧ wpc P G N b (rndQ l r Q) ρ (upd h l (lpB (lpBusy r)))
  | _, _, _ => False
/-- A round: the loop's variables, the body. -/
def rndY (l : Nat) (r : Loop) (ρ : Env) (ps : List Nat) (a b : ACode) (l' : Nat) (args : List AV) (h : Heap) (Q : AV → Heap → Prop) : Prop :=
  l' = l ∧ args.length = ps.length ∧ h l = some (lpB r) ∧ wpc P G N a (asgQ P G N l r b Q) ((ps.zip args).reverse ++ ρ) h
/-- Behind the function that was ranged over. -/
def endQ (l : Nat) (r : Loop) (id : Nat) (K : Env → Heap → Prop) (Qr : Exit → Env → Heap → Prop) (ρ : Env) (h : Heap) : Prop :=
  (h l = some (lpB r) ∧ K ρ (era h l)) ∨ (h l = some (lpB (lpEnds r (some .ret))) ∧ Qr .ret ρ (era h l)) ∨ (h l = some (lpB (lpEnds r (some (.exit id)))) ∧ K ρ (era h l))
/-- The statement, by the function that is ranged over. -/
def rfV (id : Nat) (ps : List Nat) (a b : ACode) (K : Env → Heap → Prop) (Qr : Exit → Env → Heap → Prop) (ρ : Env) (h : Heap) (v : AV) : Prop :=
  match v with
  | .fn gf first caps => callable P gf ∧ ∀ (l : Nat) (r : Loop) (e : AV → Value → Prop), h l = none → r.state = .ready → r.pending = none →
      YOk P ⟨G.g, rndY P G N l r ρ ps a b, e⟩ → Spec P ⟨G.g, rndY P G N l r ρ ps a b, e⟩ gf (first ++ [.yl l] ++ caps) (upd h l (lpB r)) (fun _ h2 => endQ l r id K Qr ρ h2)
  | _ => False
def rfK (id g : Nat) (ps : List Nat) (a b : ACode) (K : Env → Heap → Prop) (Qr : Exit → Env → Heap → Prop) (ρ : Env) (h : Heap) : Prop := rfV P G N id ps a b K Qr ρ h (lk ρ g)
/-- The parts ahead of it. -/
def wpS (K : Env → Heap → Prop) (Qr : Exit → Env → Heap → Prop) : List (List Nat × ACode) → Env → Heap → Prop
  | [] => K
  | x :: rest => wpc P G N x.2 (thn x.1 (wpS K Qr rest) Qr)
end
/-- A code's parts, one behind the other. -/
def flatC : Code → List Code
  | .seq a b => flatC a ++ flatC b
  | c => [c]
def wpL (F : Fence) (n : Nat) (P : Program) (Q : Exit → Act → World → Prop) : List Code → Act → World → Prop
  | [] => Q .normal
  | c :: r => c.wpIn F n P (Exit.then (wpL F n P Q r) Q)
theorem wpL_flat {F : Fence} {n : Nat} {P : Program} {Q : Exit → Act → World → Prop} : ∀ (c : Code) (r : List Code) (a : Act) (w : World), wpL F n P Q (flatC c ++ r) a w → c.wpIn F n P (Exit.then (wpL F n P Q r) Q) a w := by
  intro c
  induction c with
  | seq x y ih1 ih2 =>
    intro r a w h
    simp only [flatC, List.append_assoc] at h
    refine wpIn_seq (wpIn_mono (ih1 _ a w h) ?_)
    intro e a' w' q
    cases e <;> first | exact ih2 r a' w' q | exact q
  | _ => intro r a w h; exact h
/-- A function's code that has one range over a function on its way. -/
def trS (P : Program) (N : Nat) : List Code → Option (List ACode × (Nat × Nat × List Nat × ACode × ACode) × List ACode)
  | .block id (.rangeFunc (.tmp g) ps a b) :: c => match trC P N a, trC P N b, c.mapM (trC P N) with
    | some x, some y, some z => if ps.toList.all (fun t => decide (t < N)) then some ([], (id, g, ps.toList, x, y), z) else none
    | _, _, _ => none
  | a :: c => match trC P N a, trS P N c with
    | some x, some (l, r, z) => some (x :: l, r, z)
    | _, _ => none
  | [] => none
section main
variable {P : Program} {G : Glo}
theorem env_zip {w : World} {O : Nat → Prop} {N : Nat} {ρ : Env} : ∀ (ps : List Nat) (args : List AV) (vs : List Value) (tmps : Array Value), args.length = ps.length → (∀ p ∈ ps, p < tmps.size) →
    RepL w O args vs → (∀ i, Rep w O (lk ρ i) (tmps.getD i undef)) → tmps.size = N →
    (∀ i, Rep w O (lk ((ps.zip args).reverse ++ ρ) i) (((ps.zip vs).foldl (fun t (p, v) => t.setIfInBounds p v) tmps).getD i undef)) ∧ ((ps.zip vs).foldl (fun t (p, v) => t.setIfInBounds p v) tmps).size = N := by
  intro ps
  induction ps generalizing ρ with
  | nil => intro args vs tmps _ _ _ he hs; exact ⟨by simpa using he, by simpa using hs⟩
  | cons p ps ih =>
    intro args vs tmps hl hp hr he hs
    cases args with
    | nil => simp at hl
    | cons x args =>
      cases vs with
      | nil => have := hr.1; simp at this
      | cons v vs =>
        have h1 : Rep w O x v := hr.2 0 x v rfl rfl
        have h2 : RepL w O args vs := ⟨by simpa using hr.1, fun i a b q1 q2 => hr.2 (i + 1) a b (by simpa using q1) (by simpa using q2)⟩
        have hplt := hp p (by simp)
        have := ih (ρ := (p, x) :: ρ) args vs (tmps.setIfInBounds p v) (by simpa using hl) (fun q hq => by simpa using hp q (by simp [hq])) h2 (fun i => by
          simp only [lk]
          by_cases e : p = i
          · subst e
            simp [hplt]
            exact h1
          · have eb : (i == p) = false := by simpa using Ne.symm e
            rw [eb]
            simp [e]
            have := he i
            simpa using this) (by simpa using hs)
        simpa using this
theorem asg_ok (hm : P.follows .mixedOrders = true) {N : Nat} {l : Nat} {fn : FuncId} {tmps : Array Value} {ps : Array Tmp} {ca cb : Code} {D : Nat} {x y : ACode} (hx : trC P N ca = some x.bare) (hy : trC P N cb = some y.bare) (dx : drOk x = true) (dy : drOk y = true)
    {ρ : Env} (hps : ∀ p ∈ ps.toList, p < N) (hsz : tmps.size = N) {r : Loop} (hr : r = { state := .ready, pending := none, fn := fn, tmps := tmps, params := ps, assign := ca, body := cb, defers := D }) :
    YOk P ⟨G.g, rndY P G N l r ρ ps.toList x y, fun a v => G.e a v ∨ ∃ i, a = lk ρ i ∧ v = tmps.getD i undef⟩ := by
  intro l' args h Q hq w vs hh hg hrv
  obtain ⟨rfl, hlen, hl, hwp⟩ := hq
  have hw := (hh.obj hl).1
  have hvl : vs.length = ps.toList.length := by rw [← hrv.1, hlen]
  have hG : GRep G w h.dom := ⟨hg.1, fun a v e => hg.2 a v (.inl e)⟩
  have hE : ∀ i, Rep w h.dom (lk ρ i) (tmps.getD i undef) := fun i => hg.2 _ _ (.inr ⟨i, rfl, rfl⟩)
  obtain ⟨e1, e2⟩ := env_zip (N := N) ps.toList args vs tmps hlen (fun p hp => by rw [hsz]; exact hps p hp) hrv hE hsz
  have hzip : (ps.zip vs.toArray).foldl (fun tmps (x : Tmp × Value) => tmps.setIfInBounds x.1 x.2) tmps = (ps.toList.zip vs).foldl (fun t (x : Nat × Value) => t.setIfInBounds x.1 x.2) tmps := by
    rw [← Array.foldl_toList, Array.toList_zip]
  have hy0 := run_yield (P := P) (args := vs.toArray) hw (by rw [hr]; simp at hvl ⊢; exact hvl)
  refine ⟨r.fn, _, r.assign, r.body, hy0, ?_⟩
  rw [show r.fn = fn by rw [hr], show r.assign = ca by rw [hr], show r.body = cb by rw [hr], show r.params = ps by rw [hr], show r.tmps = tmps by rw [hr]]
  refine roundIn_of_wpIn (F := Fence.wide) trivial ?_
  have s0 : Sim G (w, []) h N ((ps.toList.zip args).reverse ++ ρ) h { tmps := (ps.toList.zip vs).foldl (fun t (x : Nat × Value) => t.setIfInBounds x.1 x.2) tmps, defers := [] } w :=
    ⟨rfl, e2, e1, hh, hG, Fr.refl _ _⟩
  have h1 := Wp.of_wpc hm x dx _ _ _ hwp (some l') ca hx (w, []) h _ w s0
  rw [← hzip] at h1
  refine wpIn_mono h1 ?_
  rintro e a1 w1 ⟨ρ1, h2, q, s1⟩
  cases e with
  | normal =>
    obtain ⟨hl1, hb⟩ := q
    have hw1 := (s1.heap.obj hl1).1
    refine ⟨_, run_beginRound hw1 (by rw [hr]), ?_⟩
    obtain ⟨k1, k2⟩ := hrep_put s1.heap hl1 (o' := .loop (lpBusy r)) rfl
    have s2 : Sim G (w, []) h N ρ1 (upd h2 l' (lpB (lpBusy r))) a1 (w1.putObj l' (.loop (lpBusy r))) :=
      ⟨s1.nd, s1.sz, s1.env.keep k2.keeps, k1, s1.glo.keep k2.keeps, s1.fr.trans k2⟩
    refine wpIn_mono (Wp.of_wpc hm y dy _ _ _ hb (some l') cb hy (w, []) h _ _ s2) ?_
    rintro e a2 w2 ⟨ρ2, h3, q2, s3⟩
    have fin : ∀ (c : Option Code) (b : Bool), c.isNone = b → (h3 l' = some (lpB (lpBusy r)) ∧ Q (.bool b) (upd h3 l' (lpB (lpEnds r c)))) →
        ∃ v w', (Instr.endRound l' c).run P w2 = .ok v w' ∧ ∃ v' r' h', (Ending.returned v : Ending) = .returned v' ∧ Q r' h' ∧ HRep w' h' ∧ Rep w' h'.dom r' v' ∧ Fr w h w' h' := by
      rintro c b rfl ⟨q1, q2⟩
      have hw2 := (s3.heap.obj q1).1
      have he := run_endRound (P := P) c hw2
      obtain ⟨m1, m2⟩ := hrep_put s3.heap q1 (o' := .loop (lpEnds r c)) rfl
      refine ⟨_, _, he, _, .bool c.isNone, _, rfl, q2, ?_, .bool _, s3.fr.trans m2⟩
      exact m1
    cases e with
    | normal => exact fin none true rfl (by
        have : lpEnds r none = r := by rw [hr]; rfl
        rw [this]; exact q2)
    | ret => exact fin (some .ret) false rfl q2
    | exit id => exact fin (some (.exit id)) false rfl q2
    | goto t => exact q2.elim
    | panic ch => exact q2.elim
    | outgrown => exact q2.elim
  | exit id => exact q.elim
  | ret => exact q.elim
  | goto t => exact q.elim
  | panic ch => exact q.elim
  | outgrown => exact q.elim
/-- What a walk behind a range over a function must leave: the mark is taken, the results are told. -/
theorem leave_mark {fn : Func} {rs : List RV} (hr : fn.results.toList.mapM (trRV P) = some rs) {w : World} {h0 : Heap} {Q : AV → Heap → Prop} {ρ : Env} {h : Heap} {a : Act} {w1 : World} {D : Nat}
    (hsz : w.heap.size ≤ D) (hD : h D = none) (hwD : w1.heap[D]? = some (.deferred (some []))) (hh : HRep w1 h) (he : ERep w1 h.dom ρ a) (hf : Fr w h0 w1 h) (q : retQ rs Q .ret ρ h) (hd : a.defers = [{ target := .collected D, args := #[] }]) :
    LeavesInM (FR none) 0 P fn a.tmps (fun e w' => ∃ v r h', e = .returned v ∧ Q r h' ∧ HRep w' h' ∧ Rep w' h'.dom r v ∧ Fr w h0 w' h') a.defers .returning w1 := by
  rw [hd]
  refine ⟨by simp, .inl ⟨D, _, rfl, run_takeDeferred hwD, ?_⟩⟩
  have k1 := hh.putU hD hwD rfl (o' := .deferred none)
  have k2 : ERep (w1.putObj D (.deferred none)) h.dom ρ a := fun i => (he i).putU hwD rfl
  obtain ⟨v, r, e1, e2, e3⟩ := res_sound (Q := Q) hr k1 k2 q
  refine ⟨v, e1, v, r, h, rfl, e2, k1, e3, ?_⟩
  refine ⟨by simp [World.putObj]; exact hf.size, fun b hb hn => ⟨(hf.blk b hb hn).1, ?_⟩, fun b hk => isC_putObj hwD rfl b (hf.cel b hk), hf.os, hf.tape, hf.out⟩
  rw [World.putObj_heap_other (by omega)]
  exact (hf.blk b hb hn).2
theorem leave_none {fn : Func} {rs : List RV} (hr : fn.results.toList.mapM (trRV P) = some rs) {w : World} {h0 : Heap} {Q : AV → Heap → Prop} {ρ : Env} {h : Heap} {a : Act} {w1 : World}
    (hh : HRep w1 h) (he : ERep w1 h.dom ρ a) (hf : Fr w h0 w1 h) (q : retQ rs Q .ret ρ h) (hd : a.defers = []) :
    LeavesInM (FR none) 0 P fn a.tmps (fun e w' => ∃ v r h', e = .returned v ∧ Q r h' ∧ HRep w' h' ∧ Rep w' h'.dom r v ∧ Fr w h0 w' h') a.defers .returning w1 := by
  rw [hd]
  obtain ⟨v, r, e1, e2, e3⟩ := res_sound (Q := Q) hr hh he q
  exact ⟨v, e1, v, r, h, rfl, e2, hh, e3, hf⟩
theorem suff_wp (hm : P.follows .mixedOrders = true) {N : Nat} {K : Env → Heap → Prop} {Qr : Exit → Env → Heap → Prop} (hK : ∀ ρ h, K ρ h → Qr .normal ρ h) {w0 : W0} {h0 : Heap} {Qb : Exit → Act → World → Prop}
    (hQ : ∀ e ρ h a w, Qr e ρ h → Sim G w0 h0 N ρ h a w → Qb e a w) :
    ∀ (zs : List (List Nat × ACode)), (∀ p ∈ zs, drOk p.2 = true) → ∀ (cs : List Code), cs.mapM (trC P N) = some (zs.map (·.2.bare)) → ∀ (ρ : Env) (h : Heap) (a : Act) (w : World), Sim G w0 h0 N ρ h a w → wpS P G N K Qr zs ρ h → wpL (FR none) 0 P Qb cs a w := by
  intro zs
  induction zs with
  | nil =>
    intro _ cs hc ρ h a w hs hq
    have := (mapM_get hc).1
    cases cs with
    | nil => exact hQ _ _ _ _ _ (hK _ _ hq) hs
    | cons c r => simp at this
  | cons p zs ih =>
    intro hz cs hc ρ h a w hs hq
    cases cs with
    | nil => simp at hc
    | cons c r =>
      simp only [List.mapM_cons, Option.bind_eq_bind, Option.bind_eq_some_iff, List.map_cons] at hc
      obtain ⟨x, hx, xs, hxs, he⟩ := hc
      simp only [Option.pure_def, Option.some.injEq, List.cons.injEq] at he
      obtain ⟨rfl, rfl⟩ := he
      refine wpIn_mono (Wp.of_wpc hm p.2 (hz p (by simp)) _ _ _ hq none c hx w0 h0 a w hs) ?_
      rintro e a' w' ⟨ρ', h', q, s⟩
      cases e with
      | normal => exact ih (fun q hq => hz q (by simp [hq])) r hxs _ h' a' w' (s.less (lk_keep p.1 ρ')) q
      | ret => exact hQ _ _ _ _ _ q s
      | exit i => exact hQ _ _ _ _ _ q s
      | goto t => exact hQ _ _ _ _ _ q s
      | panic ch => exact hQ _ _ _ _ _ q s
      | outgrown => exact hQ _ _ _ _ _ q s
theorem spine_wp (hm : P.follows .mixedOrders = true) {fn : Func} {rs : List RV} (hr : fn.results.toList.mapM (trRV P) = some rs) {w : World} {h0 : Heap} {Q : AV → Heap → Prop} {id g : Nat} {ps : List Nat} {x y : ACode} {zs : List (List Nat × ACode)}
    (dx : drOk x = true) (dy : drOk y = true) (dz : ∀ p ∈ zs, drOk p.2 = true) :
    ∀ (As : List (List Nat × ACode)), (∀ p ∈ As, drOk p.2 = true) → ∀ (c : List Code), trS P fn.ntmps c = some (As.map (·.2.bare), (id, g, ps, x.bare, y.bare), zs.map (·.2.bare)) →
      ∀ (ρ : Env) (h : Heap) (a : Act) (w1 : World), Sim G (w, []) h0 fn.ntmps ρ h a w1 → wpS P G fn.ntmps (rfK P G fn.ntmps id g ps x y (wpS P G fn.ntmps (retQ rs Q .normal) (retQ rs Q) zs) (retQ rs Q)) (retQ rs Q) As ρ h →
        wpL (FR none) 0 P (bodyPostM (FR none) 0 P fn (fun e w' => ∃ v r h', e = .returned v ∧ Q r h' ∧ HRep w' h' ∧ Rep w' h'.dom r v ∧ Fr w h0 w' h')) c a w1 := by
  intro As
  induction As with
  | cons p As ih =>
    intro hAs c hc ρ h a w1 hs hq
    obtain ⟨c1, c2, rfl, e1, e2⟩ : ∃ c1 c2, c = c1 :: c2 ∧ trC P fn.ntmps c1 = some p.2.bare ∧ trS P fn.ntmps c2 = some (As.map (·.2.bare), (id, g, ps, x.bare, y.bare), zs.map (·.2.bare)) := by
      unfold trS at hc
      split at hc
      · split at hc
        · split at hc <;> simp at hc
        · cases hc
      · split at hc
        · rename_i e1 e2
          simp only [List.map_cons, Option.some.injEq, Prod.mk.injEq, List.cons.injEq] at hc
          obtain ⟨⟨rfl, rfl⟩, rfl, rfl⟩ := hc
          exact ⟨_, _, rfl, e1, e2⟩
        · cases hc
      · cases hc
    refine (wpIn_mono (Wp.of_wpc hm p.2 (hAs p (by simp)) _ _ _ hq none c1 e1 (w, []) h0 a w1 hs) ?_)
    rintro e a' w' ⟨ρ', h', q, s⟩
    cases e with
    | normal => exact ih (fun q hq => hAs q (by simp [hq])) c2 e2 _ h' a' w' (s.less (lk_keep p.1 ρ')) q
    | ret => exact leave_none hr s.heap s.env s.fr q s.nd
    | exit i => exact q.elim
    | goto t => exact q.elim
    | panic ch => exact q.elim
    | outgrown => exact q.elim
  | nil =>
    intro _ c hc ρ h a w1 hs hq
    obtain ⟨ca, cb, cz, pa, rfl, e1, e2, e3, e4, rfl⟩ : ∃ ca cb cz, ∃ pa : Array Tmp, c = .block id (.rangeFunc (.tmp g) pa ca cb) :: cz ∧ trC P fn.ntmps ca = some x.bare ∧ trC P fn.ntmps cb = some y.bare ∧ cz.mapM (trC P fn.ntmps) = some (zs.map (·.2.bare)) ∧ (∀ p ∈ pa.toList, p < fn.ntmps) ∧ pa.toList = ps := by
      unfold trS at hc
      split at hc
      · split at hc
        · rename_i e1 e2 e3
          split at hc
          · rename_i hp
            simp only [List.map_nil, Option.some.injEq, Prod.mk.injEq, true_and] at hc
            obtain ⟨⟨rfl, rfl, rfl, rfl, rfl⟩, rfl⟩ := hc
            exact ⟨_, _, _, _, rfl, e1, e2, e3, fun p hpm => of_decide_eq_true (List.all_eq_true.1 hp p hpm), rfl⟩
          · cases hc
        · cases hc
      · split at hc <;> simp at hc
      · cases hc
    simp only [wpS] at hq
    unfold rfK rfV at hq
    split at hq
    case h_2 => exact hq.elim
    rename_i gf first caps hg
    obtain ⟨⟨gn, hgn, hgb, hgm⟩, hq⟩ := hq
    have hgv := hs.env g
    rw [hg] at hgv
    obtain ⟨as, cs, hgc, hga, hgcp⟩ := rep_fn hgv
    refine (wpIn_block (wpIn_rangeFunc ?_))
    intro fnid _
    obtain ⟨r, hrec⟩ : ∃ r : Loop, r = { state := .ready, pending := none, fn := fnid, tmps := a.tmps, params := pa, assign := ca, body := cb, defers := w1.heap.size } := ⟨_, rfl⟩
    obtain ⟨j1, j2, j3⟩ := hrep_skip hs.heap (.deferred (some [])) rfl
    obtain ⟨k1, k2, k3⟩ := hrep_new_obj j2 (w1 := (w1.alloc (.deferred (some []))).alloc (.loop r)) (o := .loop r) (x := lpB r) rfl ⟨rfl, rfl, rfl⟩ (fun _ => .inr ⟨_, rfl, rfl, World.alloc_heap_new _ _⟩)
    have hls : (w1.alloc (.deferred (some []))).heap.size = w1.heap.size + 1 := World.size_alloc _ _
    rw [hls] at k1 k2 k3
    obtain ⟨W1, hW1⟩ : ∃ W1, (w1.alloc (.deferred (some []))).alloc (.loop r) = W1 := ⟨_, rfl⟩
    rw [hW1] at k2 k3
    obtain ⟨l, hl⟩ : ∃ l, w1.heap.size + 1 = l := ⟨_, rfl⟩
    obtain ⟨D, hDD⟩ : ∃ D, w1.heap.size = D := ⟨_, rfl⟩
    rw [hl] at k1 k2 k3
    have hD1 : W1.heap[D]? = some (.deferred (some [])) := by
      rw [← hW1, ← hDD]; exact (Array.getElem?_push_lt (by rw [World.size_alloc]; omega)).trans ((Array.getElem?_eq_getElem _).symm.trans (World.alloc_heap_new w1 _))
    have hDl : D ≠ l := by omega
    have hDn : (upd h l (lpB r)) D = none := by rw [upd, if_neg hDl, ← hDD]; exact j1
    have hfr : Fr w1 h W1 (upd h l (lpB r)) := j3.trans k3
    have hspec := hq l r (fun u v => G.e u v ∨ ∃ i, u = lk ρ i ∧ v = a.tmps.getD i undef) k1 (by rw [hrec]) (by rw [hrec])
      (asg_ok (G := G) hm e1 e2 dx dy e4 hs.sz hrec)
    have hE1 : ERep W1 (upd h l (lpB r)).dom ρ a := hs.env.keep hfr.keeps
    have hG1 : GRep G W1 (upd h l (lpB r)).dom := hs.glo.keep hfr.keeps
    have hcall := hspec W1 (as.toList ++ [.func (.yield l) #[] #[]] ++ cs.toList) k2 ⟨hG1.1, fun u v e => by
        rcases e with e | ⟨i, rfl, rfl⟩
        · exact hG1.2 u v e
        · exact hE1 i⟩ (((RepL.keep hfr.keeps hga).append (RepL.cons (.yl l) .nil)).append (RepL.keep hfr.keeps hgcp))
    refine ⟨l, [{ target := .collected D, args := #[] }], W1, { target := .fn (.func gf) cs, args := as ++ #[.func (.yield l) #[] #[]] }, W1, gf, as ++ #[.func (.yield l) #[] #[]] ++ cs, W1, ?_, ?_, fun _ _ => trivial, ?_, fun e => (by cases e), callsFR ?_⟩
    · rw [← hW1, hrec, ← hl, ← hDD]; exact run_enterLoop_outer _ _ _ _ _
    · have : a.eval (.tmp g) = .func (.func gf) as cs := hgc
      simp only [resolve, this]
      simp [go_sem]
    · have h3 : gn.body.isNone = false := by cases e : gn.body <;> simp_all
      simp only [invoke, callFunc, Sem.run_bind, run_program, Result.andThen_ok, hgn, hgm, Bool.false_eq_true, if_false, h3]
      rfl
    · rw [show (as ++ #[Value.func (.yield l) #[] #[]] ++ cs : Array Value) = (as.toList ++ [Value.func (.yield l) #[] #[]] ++ cs.toList).toArray by apply Array.ext'; simp]
      refine hcall.mono ?_
      rintro e w3 ⟨v, r3, h2, rfl, hend, hh3, _, hf3⟩
      have hDlt : D < W1.heap.size := (Array.getElem?_eq_some_iff.1 hD1).1
      obtain ⟨hD2, hwD2⟩ := hf3.blk D hDlt hDn
      have hsz1 : w.heap.size ≤ D := by rw [← hDD]; exact hs.fr.size
      have step : ∀ r' : Loop, r'.state ≠ .busy → h2 l = some (lpB r') → (Instr.endLoop l).run P w3 = .ok r'.pending (w3.putObj l (.loop { r' with state := .exhausted })) ∧
          Sim G (w, [{ target := .collected D, args := #[] }]) h0 fn.ntmps ρ (era h2 l) { a with defers := [{ target := .collected D, args := #[] }] ++ a.defers } (w3.putObj l (.loop { r' with state := .exhausted })) ∧
          (w3.putObj l (.loop { r' with state := .exhausted })).heap[D]? = some (.deferred (some [])) ∧ era h2 l D = none := by
        intro r' hb hl2
        obtain ⟨m1, m2⟩ := hrep_put hh3 hl2 (o' := .loop { r' with state := .exhausted }) rfl
        obtain ⟨n1, n2⟩ := hrep_less (h' := era h2 l) m1 (fun b y hy => by
          simp only [era] at hy
          split at hy
          · cases hy
          · rename_i e; rw [upd, if_neg e]; exact hy)
        have hF : Fr w1 h (w3.putObj l (.loop { r' with state := .exhausted })) (era h2 l) := ((hfr.trans hf3).trans m2).trans n2
        refine ⟨run_endLoop (hh3.obj hl2).1 hb, ⟨by rw [hs.nd]; rfl, hs.sz, hs.env.keep hF.keeps, n1, hs.glo.keep hF.keeps, hs.fr.trans hF⟩, ?_, ?_⟩
        · rw [World.putObj_heap_other hDl, hwD2]; exact hD1
        · simp only [era]; split
          · rfl
          · exact hD2
      have goOn : ∀ a2 w4, Sim G (w, [{ target := .collected D, args := #[] }]) h0 fn.ntmps ρ (era h2 l) a2 w4 → w4.heap[D]? = some (.deferred (some [])) → era h2 l D = none → wpS P G fn.ntmps (retQ rs Q .normal) (retQ rs Q) zs ρ (era h2 l) →
          wpL (FR none) 0 P (bodyPostM (FR none) 0 P fn (fun e w' => ∃ v r h', e = .returned v ∧ Q r h' ∧ HRep w' h' ∧ Rep w' h'.dom r v ∧ Fr w h0 w' h')) cz a2 w4 := by
        intro a2 w4 s4 hw4 hn4 hz
        have s5 : Sim G (w4, [{ target := .collected D, args := #[] }]) (era h2 l) fn.ntmps ρ (era h2 l) a2 w4 := ⟨s4.nd, s4.sz, s4.env, s4.heap, s4.glo, Fr.refl _ _⟩
        refine suff_wp hm (fun _ _ q => q) (w0 := (w4, [{ target := .collected D, args := #[] }])) (h0 := era h2 l) ?_ zs dz cz e3 ρ _ a2 w4 s5 hz
        intro e ρ5 h5 a5 w5 q5 s6
        have hDlt4 : D < w4.heap.size := (Array.getElem?_eq_some_iff.1 hw4).1
        obtain ⟨f1, f2⟩ := s6.fr.blk D hDlt4 hn4
        have fin : retQ rs Q .ret ρ5 h5 → LeavesInM (FR none) 0 P fn a5.tmps (fun e w' => ∃ v r h', e = .returned v ∧ Q r h' ∧ HRep w' h' ∧ Rep w' h'.dom r v ∧ Fr w h0 w' h') a5.defers .returning w5 := fun q =>
          leave_mark hr hsz1 f1 (f2.trans hw4) s6.heap s6.env (s4.fr.trans s6.fr) q s6.nd
        cases e with
        | normal => exact fin q5
        | ret => exact fin q5
        | exit i => exact q5.elim
        | goto t => exact q5.elim
        | panic ch => exact q5.elim
        | outgrown => exact q5.elim
      rcases hend with ⟨q1, q2⟩ | ⟨q1, q2⟩ | ⟨q1, q2⟩
      · obtain ⟨g1, g2, g3, g4⟩ := step r (by rw [hrec]; simp) q1
        generalize w3.putObj l (.loop { r with state := .exhausted }) = w4 at g1 g2 g3
        refine ⟨_, _, g1, ?_⟩
        rw [show r.pending = none by rw [hrec]]
        exact goOn _ _ g2 g3 g4 q2
      · obtain ⟨g1, g2, g3, g4⟩ := step _ (by simp [lpEnds]) q1
        refine ⟨_, _, g1, ?_⟩
        refine wpIn_ret ?_
        exact leave_mark hr hsz1 g4 g3 g2.heap g2.env g2.fr q2 g2.nd
      · obtain ⟨g1, g2, g3, g4⟩ := step _ (by simp [lpEnds]) q1
        refine ⟨_, _, g1, ?_⟩
        refine wpIn_exit ?_
        show Exit.inBlock id _ (.exit id) _ _
        simp only [Exit.inBlock, if_true]
        exact goOn _ _ g2 g3 g4 q2
/-- A function with a range over a function, as it was taken. -/
def trR (P : Program) (fn : Func) : Option (List ACode × (Nat × Nat × List Nat × ACode × ACode) × List ACode × List RV) :=
  match fn.body with
  | some c => match trS P fn.ntmps (flatC c), fn.results.toList.mapM (trRV P) with
    | some (l, r, z), some rs => some (l, r, z, rs)
    | _, _ => none
  | none => none
structure Okr (P : Program) (f : FuncId) (fn : Func) (As : List (List Nat × ACode)) (id g : Nat) (ps : List Nat) (x y : ACode) (zs : List (List Nat × ACode)) (rs : List RV) : Prop where
  hf : P.funcs[f]? = some fn
  ht : trR P fn = some (As.map (·.2.bare), (id, g, ps, x.bare, y.bare), zs.map (·.2.bare), rs)
  hm : P.follows .mixedOrders = true
  hd : (As.all (fun p => drOk p.2) && drOk x && drOk y && zs.all (fun p => drOk p.2)) = true
theorem Spec.walkR {f : FuncId} {fn : Func} {As : List (List Nat × ACode)} {id g : Nat} {ps : List Nat} {x y : ACode} {zs : List (List Nat × ACode)} {rs : List RV} {args : List AV} {h : Heap} {Q : AV → Heap → Prop} (ho : Okr P f fn As id g ps x y zs rs)
    (hn : Nat.ble args.length fn.ntmps = true) (hw : wpS P G fn.ntmps (rfK P G fn.ntmps id g ps x y (wpS P G fn.ntmps (retQ rs Q .normal) (retQ rs Q) zs) (retQ rs Q)) (retQ rs Q) As (argEnv args) h) : Spec P G f args h Q := by
  intro w vs h1 h2 h3
  have hd := ho.hd
  simp only [Bool.and_eq_true] at hd
  obtain ⟨⟨⟨d1, d2⟩, d3⟩, d4⟩ := hd
  have ht := ho.ht
  unfold trR at ht
  split at ht
  · rename_i c hb
    split at ht
    · rename_i l r z' rs' e1 e2
      simp only [Option.some.injEq, Prod.mk.injEq] at ht
      obtain ⟨rfl, rfl, rfl, rfl⟩ := ht
      exact callsFR' (callsIn_of_wp_marks ho.hf hb trivial (wpIn_mono (wpL_flat c [] _ _ (by rw [List.append_nil]; exact spine_wp ho.hm e2 d2 d3 (fun p hp => List.all_eq_true.1 d4 p hp) As (fun p hp => List.all_eq_true.1 d1 p hp) (flatC c) e1 _ h _ w (arg_sim h1 h2 h3 (Nat.le_of_ble_eq_true hn)) hw)) (fun e a w q => by cases e <;> exact q)))
    · cases ht
  · cases ht
end main
section eqs
variable {P : Program} {G : Glo} {N : Nat} {id g l : Nat} {ps : List Nat} {x y : ACode} {K : Env → Heap → Prop} {Qr : Exit → Env → Heap → Prop} {Q : AV → Heap → Prop} {ρ : Env} {h : Heap} {r : Loop}
@[push_cast] theorem rfK_eq : rfK P G N id g ps x y K Qr ρ h = rfV P G N id ps x y K Qr ρ h (lk ρ g) := rfl
theorem rfV_fn {gf : Nat} {first caps : List AV} (h1 : callable P gf) (h2 : ∀ (l : Nat) (r : Loop) (e : AV → Value → Prop), h l = none → r.state = .ready → r.pending = none →
      YOk P ⟨G.g, rndY P G N l r ρ ps x y, e⟩ → Spec P ⟨G.g, rndY P G N l r ρ ps x y, e⟩ gf (first ++ [.yl l] ++ caps) (upd h l (lpB r)) (fun _ h2 => endQ l r id K Qr ρ h2)) : rfV P G N id ps x y K Qr ρ h (.fn gf first caps) := ⟨h1, h2⟩
@[push_cast] theorem wpS_nil : wpS P G N K Qr [] ρ h = K ρ h := by rw [wpS]
@[push_cast] theorem wpS_cons {p : List Nat × ACode} {rest : List (List Nat × ACode)} : wpS P G N K Qr (p :: rest) ρ h = wpc P G N p.2 (thn p.1 (wpS P G N K Qr rest) Qr) ρ h := by rw [wpS]
@[push_cast] theorem asgQ_n : asgQ P G N l r y Q .normal ρ h = (h l = some (lpB r) ∧ wpc P G N y (rndQ l r Q) ρ (upd h l (lpB (lpBusy r)))) := by rw [asgQ]
@[push_cast] theorem rndQ_n : rndQ l r Q .normal ρ h = (h l = some (lpB (lpBusy r)) ∧ Q (.bool true) (upd h l (lpB r))) := by rw [rndQ]
@[push_cast] theorem rndQ_r : rndQ l r Q .ret ρ h = (h l = some (lpB (lpBusy r)) ∧ Q (.bool false) (upd h l (lpB (lpEnds r (some .ret))))) := by rw [rndQ]
@[push_cast] theorem rndQ_e {i : Nat} : rndQ l r Q (.exit i) ρ h = (h l = some (lpB (lpBusy r)) ∧ Q (.bool false) (upd h l (lpB (lpEnds r (some (.exit i)))))) := by rw [rndQ]
end eqs
end Go.Ab
