/- Joined. -/
import Derived.Test.YtfgooaploagiaaaGreatPG5
set_option linter.unusedSimpArgs false
set_option linter.unusedVariables false
set_option maxRecDepth 10000
section
namespace Go.Ab
open Go.Proofs
variable {G : Glo} {h : Heap}
structure OkS (b : IBk) (S : Nat → Prop) : Prop where
 closed : Closed b S
 acts : ∀ k, k < b.ops.length → 4 ≤ (b.op k).code → S k
 to : ∀ n, n < b.exits.length → namedX b.ops b.last n = true → (b.ex n).to ≠ -1 → S (b.ex n).to.toNat
 map : ∀ n, n < b.exits.length → namedX b.ops b.last n = true → ∀ v ∈ (b.ex n).map, ownV b v = false → S v.val.toNat
noncomputable def askN (b : IBk) (k : Nat) : Bool := @decide (∀ S, OkS b S → S k) (Classical.propDecidable _)
theorem askN_iff (b : IBk) (k : Nat) : askN b k = true ↔ ∀ S, OkS b S → S k := by unfold askN; exact @decide_eq_true_iff _ (Classical.propDecidable _)
structure AskI (b : IBk) (nm ac : Nat → Bool) (mo mx : List Bool) : Prop where
 lo : mo.length = b.ops.length
 lx : mx.length = b.exits.length
 mx : ∀ n, n < b.exits.length → mx.getD n false = nm n
 closed : ∀ j, mo.getD j false = true → ∀ u ∈ usesN (b.op j), mo.getD u.toNat false = true
 acts : ∀ k, ac k = true → mo.getD k false = true
 to : ∀ n, n < b.exits.length → nm n = true → (b.ex n).to ≠ -1 → mo.getD (b.ex n).to.toNat false = true
 map : ∀ n, n < b.exits.length → nm n = true → ∀ v ∈ (b.ex n).map, ownV b v = false → mo.getD v.val.toNat false = true
 least : ∀ S, OkS b S → ∀ j, mo.getD j false = true → S j
section
variable {b : IBk} {nm ac : Nat → Bool} {mo mx mj : List Bool}
theorem AskI.exit (hI : AskI b nm ac mo mx) {n : Nat} (hn : n < b.exits.length) (hm : namedX b.ops b.last n = true) (hp : ExP b n mo mj) : AskI b (fun i => nm i || decide (i = n)) ac mj (mx.set n true) := by
 refine ⟨by rw [hp.len]; exact hI.lo, by rw [List.length_set]; exact hI.lx, fun i hi => ?_, fun j hj => ?_, fun k hk => hp.mono _ (hI.acts k hk), fun i hi hni h => ?_, fun i hi hni v hv ho => ?_, fun S hS j hj => ?_⟩
 ·rw [getD_setB]
  by_cases e : n = i
  ·subst e; rw [if_pos ⟨rfl, by rw [hI.lx]; exact hi⟩]; simp
  ·rw [if_neg (fun c => e c.1), hI.mx i hi, decide_eq_false (fun c => e c.symm), Bool.or_false]
 ·rcases hp.uses j hj with h | h
  ·exact fun u hu => hp.mono _ (hI.closed j h u hu)
  ·exact h
 ·by_cases e : i = n
  ·subst e; exact hp.to h
  ·rw [decide_eq_false e, Bool.or_false] at hni
   exact hp.mono _ (hI.to i hi hni h)
 ·by_cases e : i = n
  ·subst e; exact hp.map v hv ho
  ·rw [decide_eq_false e, Bool.or_false] at hni
   exact hp.mono _ (hI.map i hi hni v hv ho)
 ·rcases hp.least S hS.closed (hS.to n hn hm) (hS.map n hn hm) j hj with h | h
  ·exact hI.least S hS j h
  ·exact h
theorem AskI.op (hI : AskI b nm ac mo mx) {k : Nat} (hk : k < b.ops.length) (h4 : 4 ≤ (b.op k).code) (hp : AskP b k mo mj) : AskI b nm (fun i => ac i || decide (i = k)) mj mx := by
 refine ⟨by rw [hp.len]; exact hI.lo, hI.lx, hI.mx, fun j hj => ?_, fun i hi => ?_, fun i hi hni h => hp.mono _ (hI.to i hi hni h), fun i hi hni v hv ho => hp.mono _ (hI.map i hi hni v hv ho), fun S hS j hj => ?_⟩
 ·rcases hp.uses j hj with h | h
  ·exact fun u hu => hp.mono _ (hI.closed j h u hu)
  ·exact h
 ·by_cases e : i = k
  ·subst e; exact hp.self
  ·simp only [decide_eq_false e, Bool.or_false] at hi
   exact hp.mono _ (hI.acts i hi)
 ·rcases hp.least S hS.closed (hS.acts k hk h4) j hj with h | h
  ·exact hI.least S hS j h
  ·exact h
theorem AskI.congr (hI : AskI b nm ac mo mx) {nm' ac' : Nat → Bool} (h1 : ∀ n, n < b.exits.length → nm' n = nm n) (h2 : ∀ k, ac' k = true → ac k = true) : AskI b nm' ac' mo mx :=
 ⟨hI.lo, hI.lx, fun n hn => by rw [h1 n hn]; exact hI.mx n hn, hI.closed, fun k hk => hI.acts k (h2 k hk), fun n hn h => hI.to n hn (by rw [← h1 n hn]; exact h), fun n hn h => hI.map n hn (by rw [← h1 n hn]; exact h), hI.least⟩
theorem AskI.done (hI : AskI b (namedX b.ops b.last) ac mo mx) (h4 : ∀ k, k < b.ops.length → 4 ≤ (b.op k).code → ac k = true) : mo = (List.range b.ops.length).map (askN b) ∧ mx = (List.range b.exits.length).map (namedX b.ops b.last) := by
 have hS : OkS b (fun k => mo.getD k false = true) := ⟨fun j _ hj u hu => hI.closed j hj u hu, fun k hk hc => hI.acts k (h4 k hk hc), hI.to, hI.map⟩
 refine ⟨List.ext_getElem (by simp [hI.lo]) fun i h1 h2 => ?_, List.ext_getElem (by simp [hI.lx]) fun i h1 h2 => ?_⟩
 ·have e : mo[i] = mo.getD i false := by simp [h1]
  rw [e, List.getElem_map, List.getElem_range, Bool.eq_iff_iff, askN_iff]
  exact ⟨fun h S hS' => hI.least S hS' i h, fun h => h _ hS⟩
 ·have e : mx[i] = mx.getD i false := by simp [h1]
  rw [e, List.getElem_map, List.getElem_range]
  exact hI.mx i (by rw [← hI.lx]; exact h1)
end
theorem askN_ok (b : IBk) (hc : b.check = 0) : KpOk b (askN b) := by
 have hin : ∀ k, k < b.ops.length → askN b k = true → ∀ u ∈ usesN (b.op k), askN b u.toNat = true := by
  intro k hk h u hu
  rw [askN_iff] at h ⊢
  exact fun S hS => hS.closed k hk (h S hS) u hu
 have hkd := fun k hk => kind_of ((right_parts hc).1 k hk)
 have hco : ∀ k, k < b.ops.length → (b.op k).code ≤ 6 := by
  intro k hk
  have := hkd k hk
  change kindN (b.op k) = true at this
  unfold kindN at this
  simp only at this
  (repeat' split at this) <;> first | omega | (cases this)
 refine ⟨fun k hk h4 => (askN_iff b k).2 fun S hS => hS.acts k hk h4, fun n hn hm h => (askN_iff b _).2 fun S hS => hS.to n hn hm h, fun n hn hm v hv ho => (askN_iff b _).2 fun S hS => hS.map n hn hm v hv ho, fun k hk h h3 => ?_, fun k hk h h3 => ?_⟩
 ·refine hin k hk h _ ?_
  unfold usesN
  by_cases c : (b.op k).code = 3 ∨ (b.op k).code = 5 ∨ (b.op k).code = 6
  ·rw [if_pos c]; simp
  ·have := hco k hk
   rw [if_neg c, if_pos (by omega)]; simp
 ·refine hin k hk h _ ?_
  have := hco k hk
  unfold usesN
  rw [if_pos (by omega)]; simp
abbrev exFn (b : IBk) (b3 b4 : Nat) : AV := .fn 139 [] [.ptr b3 0, .cp [bkP b] 0, .ptr b4 0]
theorem askend_spec {g : Heap} {b2 b3 b4 : Nat} {vo vx v32 : AV} {n33 n34 : Int} {nm ac : Nat → Bool} {mo mx : List Bool} {Q : Exit → Env → Heap → Prop} (b : IBk) (hw : b.wf) (hc : b.check = 0) {k : Nat} (hk : k < b.ops.length) (h4 : 4 ≤ (b.op k).code) (hx : b.exit (b.op k).x k = true) (hI : AskI b nm ac mo mx) (hr : MkO g b3 b4 (opFn b b3 b4) vo vx mo mx h)
  (hq : ∀ ρ mj h', lk ρ 2 = .ptr b2 0 → lk ρ 3 = .ptr b3 0 → lk ρ 4 = .ptr b4 0 → lk ρ 5 = exFn b b3 b4 → lk ρ 32 = v32 → lk ρ 33 = .int .i64 n33 → lk ρ 34 = .int .i64 n34 → AskI b (fun i => nm i || decide (i = (b.op k).x.toNat)) (fun i => ac i || decide (i = k)) mj (mx.set (b.op k).x.toNat true) → MkO g b3 b4 (opFn b b3 b4) vo vx mj (mx.set (b.op k).x.toNat true) h' → Q (.exit 2) ρ h') :
  wpc Tryz.prog G Tryz.f108.ntmps C108_29 Q [(2, .ptr b2 0), (3, .ptr b3 0), (4, .ptr b4 0), (5, exFn b b3 b4), (6, .int .i64 k), (7, .cp (b.op k).cells 0), (32, v32), (33, .int .i64 n33), (34, .int .i64 n34)] h := by
 obtain ⟨⟨x0, x1⟩, _, _⟩ := exit_parts hx
 have heq : (b.op k).x = ((b.op k).x.toNat : Int) := by omega
 have hxn : namedX b.ops b.last (b.op k).x.toNat = true := takes_named (o := b.op k) (by show b.ops.getD k IOp.zero ∈ b.ops; rw [List.getD_eq_getElem?_getD, List.getElem?_eq_getElem hk]; simp) (.inl ⟨h4, rfl⟩) x0
 have hE := askex_spec (G := G) (mo := mo) (mx := mx) b hw hc (n := (b.op k).x.toNat) (j0 := k) (by rw [← heq]; exact hx) hI.lo hI.lx hr
 rw [← heq] at hE
 have hop : ∀ nm mo mx mj, AskI b nm ac mo mx → AskP b k mo mj → AskI b nm (fun i => ac i || decide (i = k)) mj mx := fun _ _ _ _ a p => a.op hk h4 p
 generalize b.op k = o at *
 simp only [push_cast, simprocAttr]
 refine ⟨⟨_, C139ok.hf, rfl, rfl⟩, hE.mono ?_⟩
 rintro _ h3 ⟨mj, hp, hrj⟩
 have hI2 := hI.exit (by omega) hxn hp
 obtain ⟨_, jb4, _⟩ := hrj.at
 simp only [push_cast, simprocAttr, jb4]
 refine ⟨⟨_, C138ok.hf, rfl, rfl⟩, (askop_spec (G := G) b hw hc k mj h3 hk hI2.lo hrj).mono ?_⟩
 rintro _ h6 ⟨ml, ha, hrl⟩
 simp only [push_cast, simprocAttr]
 exact hq _ ml _ rfl rfl rfl rfl rfl rfl rfl (hop _ _ _ _ hI2 ha) hrl
theorem fresh1 {h : Heap} {a e : Nat} {A : Blk} (k : Ab.upd h a A e = none) : e ≠ a ∧ h e = none := upd_none k
theorem fresh2 {h : Heap} {a b e : Nat} {A B : Blk} (k : Ab.upd (Ab.upd h a A) b B e = none) : e ≠ b ∧ e ≠ a ∧ h e = none := ⟨(upd_none k).1, fresh1 (upd_none k).2⟩
theorem fresh3 {h : Heap} {a b c e : Nat} {A B C : Blk} (k : Ab.upd (Ab.upd (Ab.upd h a A) b B) c C e = none) : e ≠ c ∧ e ≠ b ∧ e ≠ a ∧ h e = none := ⟨(upd_none k).1, fresh2 (upd_none k).2⟩
theorem fresh4 {h : Heap} {a b c d e : Nat} {A B C D : Blk} (k : Ab.upd (Ab.upd (Ab.upd (Ab.upd h a A) b B) c C) d D e = none) : e ≠ d ∧ e ≠ c ∧ e ≠ b ∧ e ≠ a ∧ h e = none := ⟨(upd_none k).1, fresh3 (upd_none k).2⟩
theorem fresh5 {h : Heap} {a b c d f e : Nat} {A B C D F : Blk} (k : Ab.upd (Ab.upd (Ab.upd (Ab.upd (Ab.upd h a A) b B) c C) d D) f F e = none) : e ≠ f ∧ e ≠ d ∧ e ≠ c ∧ e ≠ b ∧ e ≠ a ∧ h e = none := ⟨(upd_none k).1, fresh4 (upd_none k).2⟩
theorem MkO.upd {g : Heap} {b3 b4 : Nat} {fv vo vx : AV} {mo mx : List Bool} (hr : MkO g b3 b4 fv vo vx mo mx h) {b : Nat} {x y : Blk} (hb : g b = some y) (n3 : b ≠ b3) (n4 : b ≠ b4) : MkO (Ab.upd g b x) b3 b4 fv vo vx mo mx (Ab.upd h b x) := by
 obtain ⟨hn, h1, o1, o2⟩ := hr
 have k0 : (Ab.upd (Ab.upd g b3 ⟨[vo, vx], 0⟩) b4 ⟨[fv], 0⟩) b = some y := by rw [upd_ne n4, upd_ne n3]; exact hb
 have e : Ab.upd (Ab.upd (Ab.upd g b x) b3 ⟨[vo, vx], 0⟩) b4 ⟨[fv], 0⟩ = Ab.upd (Ab.upd (Ab.upd g b3 ⟨[vo, vx], 0⟩) b4 ⟨[fv], 0⟩) b x := by
  rw [upd_comm (h := Ab.upd g b3 ⟨[vo, vx], 0⟩) (Ne.symm n4), upd_comm (h := g) (Ne.symm n3)]
 refine ⟨hn, _, ?_, o2.upd (.inr ⟨_, o1.get k0⟩)⟩
 rw [e]
 exact o1.upd (.inr ⟨_, k0⟩)
theorem Le.aggF {sz n i : Nat} {g h : Heap} {v : AV} {cells L : List AV} (ho : Own sz g v cells n h) (hi : L[i]? = some v) : Le (.agg L) h (.agg (L.set i (.ro cells n))) g := by
 intro w u hw hr
 obtain ⟨cs, rfl, hl, h1, hr1⟩ := rep_agg hr
 obtain ⟨l1, l2⟩ := hrep_less hw ho.sub
 refine ⟨l1, .agg _ _ (by simpa using hl) h1 fun j u c e1 e2 => ?_, fun d hd => ho.sub.none hd⟩
 rw [List.getElem?_set] at e1
 split at e1
 ·rename_i hij
  subst hij
  split at e1
  ·cases e1
   exact (ho.freeze w c hw (hr1 i _ c hi e2)).2.1
  ·cases e1
 ·exact (hr1 j u c e1 e2).keep l2.keeps
theorem dasked_spec (b : IBk) (hw : b.wf) (hc : b.check = 0) : Spec Tryz.prog G 108 [bkP b] h (Is (.agg [.ro (((List.range b.ops.length).map (askN b)).map .bool) b.ops.length, .ro (((List.range b.exits.length).map (namedX b.ops b.last)).map .bool) b.exits.length]) h) := by
 obtain ⟨hops, hexs⟩ := right_parts hc
 obtain ⟨hs1, hs2, hs3⟩ := hw.hs
 have hlast : b.exit b.last b.ops.length = true := by
  have := chk_right hc
  simp only [IBk.right, Bool.and_eq_true] at this
  exact this.2
 refine Spec.weak (Q := fun r h' => ∃ g b3 b4 vo vx, r = .agg [vo, vx] ∧ Sub h g ∧ g b3 = none ∧ g b4 = none ∧ MkO g b3 b4 (opFn b b3 b4) vo vx ((List.range b.ops.length).map (askN b)) ((List.range b.exits.length).map (namedX b.ops b.last)) h') ?_ ?_
 ·refine Spec.walk C108ok rfl ?_
  have fin : ∀ b2 b3 b4 g H vo vx, h b2 = none → b2 ≠ b3 → b2 ≠ b4 → g b2 = some ⟨[.nils, .nils], 0⟩ → Sub h g → g b3 = none → g b4 = none → MkO g b3 b4 (opFn b b3 b4) vo vx (List.replicate b.ops.length false) (List.replicate b.exits.length false) H →
    wpc Tryz.prog G Tryz.f108.ntmps C108_47 (retQ C108r (fun r h' => ∃ g b3 b4 vo vx, r = .agg [vo, vx] ∧ Sub h g ∧ g b3 = none ∧ g b4 = none ∧ MkO g b3 b4 (opFn b b3 b4) vo vx ((List.range b.ops.length).map (askN b)) ((List.range b.exits.length).map (namedX b.ops b.last)) h')) [(1, .cp [bkP b] 0), (2, .ptr b2 0), (3, .ptr b3 0), (4, .ptr b4 0)] H := by
   intro b2 b3 b4 g H vo vx h20 n23 n24 hb2 hs hg3 hg4 hr
   have h2of : ∀ {mo mx H}, MkO g b3 b4 (opFn b b3 b4) vo vx mo mx H → H b2 = some ⟨[.nils, .nils], 0⟩ := fun hr => hr.at.2.2 b2 _ (by rw [upd_ne n24, upd_ne n23]; exact hb2)
   have hA := fun v32 n33 n34 nm ac mo mx Q k h a1 a2 a3 a4 a5 a6 => askend_spec (G := G) (g := g) (b2 := b2) (b3 := b3) (b4 := b4) (vo := vo) (vx := vx) (v32 := v32) (n33 := n33) (n34 := n34) (nm := nm) (ac := ac) (mo := mo) (mx := mx) (Q := Q) (k := k) (h := h) b hw hc a1 a2 a3 a4 a5 a6
   obtain ⟨⟨l0, l1⟩, _, _⟩ := exit_parts hlast
   have hI0 : AskI b (fun _ => false) (fun _ => false) (List.replicate b.ops.length false) (List.replicate b.exits.length false) := by
    have hf : ∀ n j, ¬ ((List.replicate n false).getD j false = true) := fun n j h => by
     rw [List.getD_eq_getElem?_getD, List.getElem?_replicate] at h; split at h <;> simp at h
    exact ⟨by simp, by simp, fun n hn => by have := hf b.exits.length n; simpa using this, fun j h => absurd h (hf _ _), fun _ h => (by cases h), fun _ _ h => (by cases h), fun _ _ h => (by cases h), fun _ _ j h => absurd h (hf _ _)⟩
   have heq : b.last = (b.last.toNat : Int) := by omega
   have hE := askex_spec (G := G) b hw hc (n := b.last.toNat) (j0 := b.ops.length) (by rw [← heq]; exact hlast) hI0.lo hI0.lx hr
   rw [← heq] at hE
   show wpc _ _ _ (.seq [1, 2, 3, 4, 5] C108_4 (.seq [1, 2, 3, 4, 5] C108_5 (.seq [2, 3] (.seq [2, 3, 4, 5, 32, 33, 34] C108_6 (.block 0 (.loop (.seq [2, 3, 4, 5, 32, 33, 34, 35] C108_7 (.seq [2, 3, 4, 5, 32, 33, 34] C108_8 (.seq [2, 3, 4, 5, 32, 33, 34] (.block 1 (.seq [2, 3, 4, 5, 6, 7, 32, 33, 34] C108_9 (.fz 7 (.seq [2, 3, 4, 5, 6, 7, 32, 33, 34, 40] C108_10 (.block 2 (.seq [2, 3, 4, 5, 6, 7, 32, 33, 34] C108_25 C108_29)))))) C108_36)))))) C108_44))) _ _ _
   generalize C108_29 = Y at hA ⊢
   simp only [push_cast, simprocAttr]
   refine ⟨⟨_, C139ok.hf, rfl, rfl⟩, hE.mono ?_⟩
   rintro _ h3 ⟨mj, hp, hrj⟩
   have hI1 := hI0.exit (by omega) (by unfold namedX; rw [decide_eq_true heq, Bool.true_or]) hp
   simp only [push_cast, simprocAttr]
   refine lpc.rel [2, 3, 4, 5, 32, 33, 34] (fun m ρ h' => ∃ (i : Nat) (mo mx : List Bool), m = b.ops.length - i ∧ i ≤ b.ops.length ∧ AskI b (namedX (b.ops.take i) b.last) (fun k => decide (k < i ∧ 4 ≤ (b.op k).code)) mo mx ∧ MkO g b3 b4 (opFn b b3 b4) vo vx mo mx h' ∧
    ρ = [(2, .ptr b2 0), (3, .ptr b3 0), (4, .ptr b4 0), (5, exFn b b3 b4), (32, ops b.ops), (33, .int .i64 (b.ops.length : Int)), (34, .int .i64 (i : Int))]) ⟨_, 0, mj, _, rfl, by omega, hI1.congr (fun n _ => ?_) (fun k hk => by simp at hk), hrj, rfl⟩ ?_
   ·unfold namedX
    rw [Bool.eq_iff_iff]; simp; omega
   rintro m _ h4 ⟨i, mo, mx, rfl, hi, hI, hri, rfl⟩
   by_cases hi2 : i < b.ops.length
   ·have hO : b.ops.getD i IOp.zero = b.op i := rfl
    have hmem : b.op i ∈ b.ops := by show b.ops.getD i IOp.zero ∈ b.ops; rw [List.getD_eq_getElem?_getD, List.getElem?_eq_getElem hi2]; simp
    have htk : b.ops.take (i + 1) = b.ops.take i ++ [b.op i] := by
     rw [List.take_add_one, ← hO]; simp [hi2]
    have hnm := fun n => named_snoc (b.ops.take i) (b.op i) b.last n
    rw [← htk] at hnm
    have hxs := fun x (h : takes (b.op i) x) => opR_takes (hops i hi2) (x := x) h
    have hac : ∀ k, decide (k < i + 1 ∧ 4 ≤ (b.op k).code) = true → (decide (k < i ∧ 4 ≤ (b.op k).code) || decide (k = i)) = true := by
     intro k hk
     simp only [decide_eq_true_eq, Bool.or_eq_true] at hk ⊢
     omega
    have hac0 : ¬ 4 ≤ (b.op i).code → ∀ k, decide (k < i + 1 ∧ 4 ≤ (b.op k).code) = true → decide (k < i ∧ 4 ≤ (b.op k).code) = true := by
     intro h k hk
     simp only [decide_eq_true_eq] at hk ⊢
     refine ⟨?_, hk.2⟩
     have : k ≠ i := fun e => h (by rw [← e]; exact hk.2)
     omega
    obtain ⟨_, jb4, _⟩ := hri.at
    have fin3 : ∀ {nm mo mx H} {R : Nat → Env → Heap → Prop}, 4 ≤ (b.op i).code → AskI b nm (fun k => decide (k < i ∧ 4 ≤ (b.op k).code)) mo mx → MkO g b3 b4 (opFn b b3 b4) vo vx mo mx H → (∀ n, n < b.exits.length → namedX (b.ops.take (i + 1)) b.last n = (nm n || decide (n = (b.op i).x.toNat))) → ∀ Q : Exit → Env → Heap → Prop, (∀ ρ mj mx' h', lk ρ 2 = .ptr b2 0 → lk ρ 3 = .ptr b3 0 → lk ρ 4 = .ptr b4 0 → lk ρ 5 = exFn b b3 b4 → lk ρ 32 = ops b.ops → lk ρ 33 = .int .i64 (b.ops.length : Int) → lk ρ 34 = .int .i64 (i : Int) →
      AskI b (namedX (b.ops.take (i + 1)) b.last) (fun k => decide (k < i + 1 ∧ 4 ≤ (b.op k).code)) mj mx' → MkO g b3 b4 (opFn b b3 b4) vo vx mj mx' h' → Q (.exit 2) ρ h') →
      wpc Tryz.prog G Tryz.f108.ntmps Y Q [(2, .ptr b2 0), (3, .ptr b3 0), (4, .ptr b4 0), (5, exFn b b3 b4), (6, .int .i64 i), (7, .cp (b.op i).cells 0), (32, ops b.ops), (33, .int .i64 (b.ops.length : Int)), (34, .int .i64 (i : Int))] H :=
     fun {nm mo mx H R} h4 hI hr hn Q hq => hA _ _ _ nm _ mo mx Q i H hi2 h4 (hxs _ (.inl ⟨h4, rfl⟩)) hI hr fun ρ mj h' e2 e3 e4 e5 e32 e33 e34 hI' hr' => hq ρ mj _ h' e2 e3 e4 e5 e32 e33 e34 (hI'.congr hn hac) hr'
    by_cases c5 : (b.op i).code = 5
    ·obtain ⟨⟨y0, y1⟩, _, _⟩ := exit_parts (hxs _ (.inr ⟨c5, rfl⟩))
     have yeq : (b.op i).y = ((b.op i).y.toNat : Int) := by omega
     have hEy := askex_spec (G := G) b hw hc (n := (b.op i).y.toNat) (j0 := i) (by rw [← yeq]; exact hxs _ (.inr ⟨c5, rfl⟩)) hI.lo hI.lx hri
     rw [← yeq] at hEy
     have hyn := takes_named (l := b.ops) (last := b.last) hmem (.inr ⟨c5, rfl⟩) y0
     simp only [push_cast, simprocAttr, hi2, hO]
     intro c' hc'
     rw [era_none hc']
     simp only [push_cast, simprocAttr, c5]
     refine ⟨⟨_, C139ok.hf, rfl, rfl⟩, hEy.mono ?_⟩
     rintro _ h6 ⟨mk, hp, hrk⟩
     have hIk := hI.exit (by omega) hyn hp
     simp only [push_cast, simprocAttr]
     refine fin3 (R := fun _ _ _ => True) (by omega) hIk hrk (fun n _ => ?_) _ fun ρ mj mx' h' e2 e3 e4 e5 e32 e33 e34 hI' hr' => ?_
     ·rw [hnm n, c5]
      have x0 := (exit_parts (hxs _ (.inl ⟨by omega, rfl⟩))).1.1
      have a1 : decide ((b.op i).x = (n : Int)) = decide (n = (b.op i).x.toNat) := by rw [decide_eq_decide]; omega
      have a2 : decide ((b.op i).y = (n : Int)) = decide (n = (b.op i).y.toNat) := by rw [decide_eq_decide]; omega
      rw [a1, a2]
      cases namedX (b.ops.take i) b.last n <;> cases decide (n = (b.op i).x.toNat) <;> cases decide (n = (b.op i).y.toNat) <;> rfl
     ·simp (disch := omega) only [push_cast, simprocAttr, wrap_i64, toNat_ofInt64, Nat.min_eq_left, Int.toNat_of_nonneg, e2, e3, e4, e5, e32, e33, e34]
      exact ⟨_, _, by omega, .refl _, i + 1, mj, mx', rfl, by omega, hI', hr', rfl⟩
    ·by_cases c46 : (b.op i).code = 4 ∨ (b.op i).code = 6
     ·have x0 := (exit_parts (hxs _ (.inl ⟨by omega, rfl⟩))).1.1
      have hn46 : ∀ n, n < b.exits.length → namedX (b.ops.take (i + 1)) b.last n = (namedX (b.ops.take i) b.last n || decide (n = (b.op i).x.toNat)) := by
       intro n _
       rw [hnm n]
       have a1 : decide ((b.op i).x = (n : Int)) = decide (n = (b.op i).x.toNat) := by rw [decide_eq_decide]; omega
       have a2 : decide (4 ≤ (b.op i).code) = true := decide_eq_true (by omega)
       have a3 : decide ((b.op i).code = 5) = false := decide_eq_false c5
       rw [a1, a2, a3]
       simp
      have fin4 := fin3 (R := fun _ _ _ => True) (by omega) hI hri hn46
      rcases c46 with c | c
      ·simp only [push_cast, simprocAttr, hi2, hO]
       intro c' hc'
       rw [era_none hc']
       simp only [push_cast, simprocAttr, c]
       refine fin4 _ fun ρ mj mx' h' e2 e3 e4 e5 e32 e33 e34 hI' hr' => ?_
       simp (disch := omega) only [push_cast, simprocAttr, wrap_i64, toNat_ofInt64, Nat.min_eq_left, Int.toNat_of_nonneg, e2, e3, e4, e5, e32, e33, e34]
       exact ⟨_, _, by omega, .refl _, i + 1, mj, mx', rfl, by omega, hI', hr', rfl⟩
      ·simp only [push_cast, simprocAttr, hi2, hO]
       intro c' hc'
       rw [era_none hc']
       simp only [push_cast, simprocAttr, c]
       refine fin4 _ fun ρ mj mx' h' e2 e3 e4 e5 e32 e33 e34 hI' hr' => ?_
       simp (disch := omega) only [push_cast, simprocAttr, wrap_i64, toNat_ofInt64, Nat.min_eq_left, Int.toNat_of_nonneg, e2, e3, e4, e5, e32, e33, e34]
       exact ⟨_, _, by omega, .refl _, i + 1, mj, mx', rfl, by omega, hI', hr', rfl⟩
     ·have hk6 := kind_of (hops i hi2)
      have d4 : ¬ (b.op i).code = 4 := fun e => c46 (.inl e)
      have d6 : ¬ (b.op i).code = 6 := fun e => c46 (.inr e)
      have h4 : ¬ 4 ≤ (b.op i).code := by
       change kindN (b.op i) = true at hk6
       unfold kindN at hk6
       simp only at hk6
       (repeat' split at hk6) <;> first | omega | (cases hk6)
      simp (disch := omega) only [push_cast, simprocAttr, wrap_i64, toNat_ofInt64, Nat.min_eq_left, Int.toNat_of_nonneg, hi2, hO]
      intro c' hc'
      rw [era_none hc']
      simp (disch := omega) only [push_cast, simprocAttr, wrap_i64, toNat_ofInt64, Nat.min_eq_left, Int.toNat_of_nonneg, c5, d4, d6]
      refine ⟨_, _, by omega, .refl _, i + 1, mo, mx, rfl, by omega, hI.congr (fun n _ => ?_) (hac0 h4), hri, rfl⟩
      rw [hnm n, decide_eq_false h4, decide_eq_false c5]
      simp
   ·obtain rfl : i = b.ops.length := by omega
    rw [List.take_length] at hI
    obtain ⟨q1, q2⟩ := hI.done fun k hk h4 => by simp [hk, h4]
    subst q1
    subst q2
    obtain ⟨jb3, _, _⟩ := hri.at
    have jb2 := h2of hri
    simp only [push_cast, simprocAttr, hi2, jb3, jb2]
    exact ⟨_, b3, b4, vo, vx, rfl, sub_upd h20 hs, by rw [upd_ne (Ne.symm n23)]; exact hg3, by rw [upd_ne (Ne.symm n24)]; exact hg4, hri.upd hb2 n23 n24⟩
  show wpc _ _ _ (.seq [1, 2] C108_0 (.seq [1, 2, 3] C108_1 (.seq [1, 2, 3, 4] C108_2 (.seq [1, 2, 3, 4] C108_3 C108_47)))) _ _ _
  generalize C108_47 = Z at fin ⊢
  generalize retQ C108r _ = QQ at fin ⊢
  have fin2 : ∀ b1 bm bq bo bx sp1 sp2, b1 ≠ bm → b1 ≠ bq → b1 ≠ bo → b1 ≠ bx → bm ≠ bq → bm ≠ bo → bm ≠ bx → bq ≠ bo → bq ≠ bx → bo ≠ bx → h b1 = none → h bm = none → h bq = none → h bo = none → h bx = none →
    ∀ H, H = Ab.upd (Ab.upd (Ab.upd (Ab.upd (Ab.upd h b1 ⟨[.nils, .nils], 0⟩) bm ⟨[.sl bo 0 b.ops.length b.ops.length, .sl bx 0 b.exits.length b.exits.length], 0⟩) bq ⟨[opFn b bm bq], 0⟩) bo ⟨List.replicate b.ops.length (.bool false), sp1⟩) bx ⟨List.replicate b.exits.length (.bool false), sp2⟩ → wpc Tryz.prog G Tryz.f108.ntmps Z QQ [(1, .cp [bkP b] 0), (2, .ptr b1 0), (3, .ptr bm 0), (4, .ptr bq 0)] H := by
   intro b1 bm bq bo bx sp1 sp2 n1 n2 n3 n4 n5 n6 n7 n8 n9 n10 h1 h2 h3 h4 h5 H hH
   refine fin b1 bm bq (Ab.upd h b1 ⟨[.nils, .nils], 0⟩) H (.sl bo 0 b.ops.length b.ops.length) (.sl bx 0 b.exits.length b.exits.length) h1 n1 n2 (upd_same _ _ _) (sub_upd h1 (.refl _)) (by rw [upd_ne (Ne.symm n1)]; exact h2) (by rw [upd_ne (Ne.symm n2)]; exact h3) ⟨n5, Ab.upd (Ab.upd (Ab.upd (Ab.upd h b1 ⟨[.nils, .nils], 0⟩) bm ⟨[.sl bo 0 b.ops.length b.ops.length, .sl bx 0 b.exits.length b.exits.length], 0⟩) bq ⟨[opFn b bm bq], 0⟩) bo ⟨List.replicate b.ops.length (.bool false), sp1⟩, ?_, ?_⟩
   ·have := Own.row (sz := 1) (g := Ab.upd (Ab.upd (Ab.upd h b1 ⟨[.nils, .nils], 0⟩) bm ⟨[.sl bo 0 b.ops.length b.ops.length, .sl bx 0 b.exits.length b.exits.length], 0⟩) bq ⟨[opFn b bm bq], 0⟩) bo b.ops.length b.ops.length [] (List.replicate b.ops.length (.bool false)) sp1 (by rw [upd_ne (Ne.symm n8), upd_ne (Ne.symm n6), upd_ne (Ne.symm n3)]; exact h4) (by simp) (by omega)
    rw [List.map_replicate, List.length_replicate]
    exact this
   ·have := Own.row (sz := 1) (g := Ab.upd (Ab.upd (Ab.upd (Ab.upd h b1 ⟨[.nils, .nils], 0⟩) bm ⟨[.sl bo 0 b.ops.length b.ops.length, .sl bx 0 b.exits.length b.exits.length], 0⟩) bq ⟨[opFn b bm bq], 0⟩) bo ⟨List.replicate b.ops.length (.bool false), sp1⟩) bx b.exits.length b.exits.length [] (List.replicate b.exits.length (.bool false)) sp2 (by rw [upd_ne (Ne.symm n10), upd_ne (Ne.symm n9), upd_ne (Ne.symm n7), upd_ne (Ne.symm n4)]; exact h5) (by simp) (by omega)
    rw [List.map_replicate, List.length_replicate, hH]
    exact this
  clear fin
  simp only [push_cast, simprocAttr]
  intro b1 hb1
  refine ⟨⟨by omega, by omega, by omega, fun bo ho => ⟨⟨by omega, by omega, by omega, fun bx hx bm hm bq hq => ?_⟩, fun bm hm => ⟨by omega, by omega, by omega, fun bx hx => ?_⟩⟩⟩, ⟨by omega, by omega, by omega, fun bx hx => ⟨⟨by omega, by omega, by omega, fun bo ho bm hm bq hq => ?_⟩, fun bm hm => ⟨by omega, by omega, by omega, fun bo ho => ?_⟩⟩⟩,
   fun bm hm => ⟨⟨by omega, by omega, by omega, fun bo ho => ⟨by omega, by omega, by omega, fun bx hx => ?_⟩⟩, ⟨by omega, by omega, by omega, fun bx hx => ⟨by omega, by omega, by omega, fun bo ho => ?_⟩⟩⟩⟩
  ·have fbo := fresh1 ho
   have fbx := fresh2 hx
   have fbm := fresh3 hm
   have fbq := fresh4 hq
   refine fin2 b1 bm bq bo bx ((b.ops.length : Int) - (b.ops.length : Int)).toNat ((b.exits.length : Int) - (b.exits.length : Int)).toNat (by omega) (by omega) (by omega) (by omega) (by omega) (by omega) (by omega) (by omega) (by omega) (by omega) hb1 fbm.2.2.2 fbq.2.2.2.2 fbo.2 fbx.2.2 _ ?_
   funext d
   simp only [upd_at]
   (repeat' split) <;> first | rfl | (exfalso; omega)
  ·have fbo := fresh1 ho
   have fbm := fresh2 hm
   have fbx := fresh3 hx
   have km : (Ab.upd (Ab.upd (Ab.upd (Ab.upd h b1 ⟨[AV.nils, AV.nils], 0⟩) bo ⟨List.replicate b.ops.length (AV.bool false), ((b.ops.length : Int) - (b.ops.length : Int)).toNat⟩) bm ⟨[AV.nils, AV.nils], 0⟩) bx ⟨List.replicate b.exits.length (AV.bool false), ((b.exits.length : Int) - (b.exits.length : Int)).toNat⟩) bm = some ⟨[AV.nils, AV.nils], 0⟩ := by rw [upd_ne (by omega : bm ≠ bx)]; exact upd_same _ _ _
   simp only [push_cast, simprocAttr, km]
   intro bq hq
   have fbq := fresh5 hq
   refine fin2 b1 bm bq bo bx ((b.ops.length : Int) - (b.ops.length : Int)).toNat ((b.exits.length : Int) - (b.exits.length : Int)).toNat (by omega) (by omega) (by omega) (by omega) (by omega) (by omega) (by omega) (by omega) (by omega) (by omega) hb1 fbm.2.2 fbq.2.2.2.2.2 fbo.2 fbx.2.2.2 _ ?_
   funext d
   simp only [upd_at]
   (repeat' split) <;> first | rfl | (exfalso; omega)
  ·have fbx := fresh1 hx
   have fbo := fresh2 ho
   have fbm := fresh3 hm
   have fbq := fresh4 hq
   refine fin2 b1 bm bq bo bx ((b.ops.length : Int) - (b.ops.length : Int)).toNat ((b.exits.length : Int) - (b.exits.length : Int)).toNat (by omega) (by omega) (by omega) (by omega) (by omega) (by omega) (by omega) (by omega) (by omega) (by omega) hb1 fbm.2.2.2 fbq.2.2.2.2 fbo.2.2 fbx.2 _ ?_
   funext d
   simp only [upd_at]
   (repeat' split) <;> first | rfl | (exfalso; omega)
  ·have fbx := fresh1 hx
   have fbm := fresh2 hm
   have fbo := fresh3 ho
   have km : (Ab.upd (Ab.upd (Ab.upd (Ab.upd h b1 ⟨[AV.nils, AV.nils], 0⟩) bx ⟨List.replicate b.exits.length (AV.bool false), ((b.exits.length : Int) - (b.exits.length : Int)).toNat⟩) bm ⟨[AV.nils, AV.nils], 0⟩) bo ⟨List.replicate b.ops.length (AV.bool false), ((b.ops.length : Int) - (b.ops.length : Int)).toNat⟩) bm = some ⟨[AV.nils, AV.nils], 0⟩ := by rw [upd_ne (by omega : bm ≠ bo)]; exact upd_same _ _ _
   simp only [push_cast, simprocAttr, km]
   intro bq hq
   have fbq := fresh5 hq
   refine fin2 b1 bm bq bo bx ((b.ops.length : Int) - (b.ops.length : Int)).toNat ((b.exits.length : Int) - (b.exits.length : Int)).toNat (by omega) (by omega) (by omega) (by omega) (by omega) (by omega) (by omega) (by omega) (by omega) (by omega) hb1 fbm.2.2 fbq.2.2.2.2.2 fbo.2.2.2 fbx.2 _ ?_
   funext d
   simp only [upd_at]
   (repeat' split) <;> first | rfl | (exfalso; omega)
  ·have fbm := fresh1 hm
   have fbo := fresh2 ho
   have fbx := fresh3 hx
   have km : (Ab.upd (Ab.upd (Ab.upd (Ab.upd h b1 ⟨[AV.nils, AV.nils], 0⟩) bm ⟨[AV.nils, AV.nils], 0⟩) bo ⟨List.replicate b.ops.length (AV.bool false), ((b.ops.length : Int) - (b.ops.length : Int)).toNat⟩) bx ⟨List.replicate b.exits.length (AV.bool false), ((b.exits.length : Int) - (b.exits.length : Int)).toNat⟩) bm = some ⟨[AV.nils, AV.nils], 0⟩ := by rw [upd_ne (by omega : bm ≠ bx), upd_ne (by omega : bm ≠ bo)]; exact upd_same _ _ _
   simp only [push_cast, simprocAttr, km]
   intro bq hq
   have fbq := fresh5 hq
   refine fin2 b1 bm bq bo bx ((b.ops.length : Int) - (b.ops.length : Int)).toNat ((b.exits.length : Int) - (b.exits.length : Int)).toNat (by omega) (by omega) (by omega) (by omega) (by omega) (by omega) (by omega) (by omega) (by omega) (by omega) hb1 fbm.2 fbq.2.2.2.2.2 fbo.2.2 fbx.2.2.2 _ ?_
   funext d
   simp only [upd_at]
   (repeat' split) <;> first | rfl | (exfalso; omega)
  ·have fbm := fresh1 hm
   have fbx := fresh2 hx
   have fbo := fresh3 ho
   have km : (Ab.upd (Ab.upd (Ab.upd (Ab.upd h b1 ⟨[AV.nils, AV.nils], 0⟩) bm ⟨[AV.nils, AV.nils], 0⟩) bx ⟨List.replicate b.exits.length (AV.bool false), ((b.exits.length : Int) - (b.exits.length : Int)).toNat⟩) bo ⟨List.replicate b.ops.length (AV.bool false), ((b.ops.length : Int) - (b.ops.length : Int)).toNat⟩) bm = some ⟨[AV.nils, AV.nils], 0⟩ := by rw [upd_ne (by omega : bm ≠ bo), upd_ne (by omega : bm ≠ bx)]; exact upd_same _ _ _
   simp only [push_cast, simprocAttr, km]
   intro bq hq
   have fbq := fresh5 hq
   refine fin2 b1 bm bq bo bx ((b.ops.length : Int) - (b.ops.length : Int)).toNat ((b.exits.length : Int) - (b.exits.length : Int)).toNat (by omega) (by omega) (by omega) (by omega) (by omega) (by omega) (by omega) (by omega) (by omega) (by omega) hb1 fbm.2 fbq.2.2.2.2.2 fbo.2.2.2 fbx.2.2 _ ?_
   funext d
   simp only [upd_at]
   (repeat' split) <;> first | rfl | (exfalso; omega)
 ·rintro _ h' ⟨g, b3, b4, vo, vx, rfl, hs, h3, h4, hn, h1, o1, o2⟩
  refine ⟨_, _, ⟨rfl, rfl⟩, ?_⟩
  have e2 := Le.aggF (L := [vo, vx]) (i := 1) o2 rfl
  have e1 := Le.aggF (L := [vo, .ro (((List.range b.exits.length).map (namedX b.ops b.last)).map .bool) ((List.range b.exits.length).map (namedX b.ops b.last)).length]) (i := 0) o1 rfl
  have e3 : Sub h (Ab.upd (Ab.upd g b3 ⟨[vo, vx], 0⟩) b4 ⟨[opFn b b3 b4], 0⟩) := sub_upd (hs.none h4) (sub_upd (hs.none h3) hs)
  have := le_trans e2 (le_trans e1 (le_sub e3 (Le.refl _ _)))
  simpa using this
end Go.Ab
end
section
namespace Go.Ab
open Go.Proofs
variable {G : Glo} {h : Heap}
abbrev boolsV (kp : Nat → Bool) (n : Nat) : AV := .ro (((List.range n).map kp).map .bool) n
def upW (kp : Nat → Bool) (n k : Nat) : List Int := (List.range n).map fun j => if j < k then (plN kp j : Int) else 0
theorem upW_len (kp n k) : (upW kp n k).length = n := by simp [upW]
theorem upW_set (kp : Nat → Bool) {n k : Nat} (hk : k < n) : (upW kp n k).set k (plN kp k : Int) = upW kp n (k + 1) := by
 apply List.ext_getElem
 ·simp [upW]
 ·intro i h1 h2
  have hi : i < n := by simpa [upW] using h2
  rw [List.getElem_set]
  simp only [upW, List.getElem_map, List.getElem_range]
  by_cases e : k = i
  ·subst e; rw [if_pos rfl, if_pos (by omega)]
  ·rw [if_neg e]
   by_cases hik : i < k
   ·rw [if_pos hik, if_pos (by omega)]
   ·rw [if_neg hik, if_neg (by omega)]
theorem upW_all (kp : Nat → Bool) (n : Nat) : upW kp n n = upk kp n := by
 unfold upW upk
 refine List.map_congr_left fun i hi => ?_
 rw [if_pos (by simpa using hi)]
theorem upk_len (kp n) : (upk kp n).length = n := by simp [upk]
theorem renumber_spec (kp : Nat → Bool) (n : Nat) (hn : n ≤ 1000000000000) : Spec Tryz.prog G 109 [boolsV kp n] h (Is (ints (upk kp n)) h) := by
 refine Spec.weak (Q := fun r h' => Own 1 h r ((upk kp n).map (.int .i64)) n h') ?_ ?_
 ·refine Spec.walk C109ok rfl ?_
  simp only [push_cast, simprocAttr]
  refine ⟨by omega, by omega, by omega, fun b hb => ?_⟩
  generalize ((n : Int) - (n : Int)).toNat = sp
  have h0 : Own 1 h (.sl b 0 n n) ((upW kp n 0).map (.int .i64)) n (Ab.upd h b ⟨List.replicate n (.int .i64 0), sp⟩) := by
   have := Own.row (sz := 1) (g := h) b n n [] (List.replicate n (.int .i64 0)) sp hb (by simp) (by omega)
   have e : (upW kp n 0).map (AV.int .i64) = List.replicate n (.int .i64 0) := by
    apply List.ext_getElem
    ·simp [upW]
    ·intro i h1 h2; simp [upW]
   rw [e]
   exact this
  generalize AV.sl b 0 n n = v at *
  generalize Ab.upd h b _ = H at *
  refine lpc.rel [3, 4, 10, 11, 12] (fun m ρ h' => ∃ k : Nat, m = n - k ∧ k ≤ n ∧ Own 1 h v ((upW kp n k).map (.int .i64)) n h' ∧
   ρ = [(3, v), (4, .int .i64 (plN kp k : Int)), (10, boolsV kp n), (11, .int .i64 (n : Int)), (12, .int .i64 (k : Int))]) ⟨_, 0, rfl, by omega, h0, rfl⟩ ?_
  rintro m _ h2 ⟨k, rfl, hk, ho, rfl⟩
  by_cases hk2 : k < n
  ·obtain ⟨bo, pre, cap, sp, rfl, hbo, _, put⟩ := own_lie ho (by omega)
   have hset : (pre ++ (upW kp n k).map (AV.int .i64)).set (pre.length + k) (.int .i64 (plN kp k : Int)) = pre ++ ((upW kp n k).set k (plN kp k : Int)).map (AV.int .i64) := by
    rw [List.set_append_right _ _ (by omega), Nat.add_sub_cancel_left, List.map_set]
   have hlen : (pre ++ (upW kp n k).map (AV.int .i64)).length = pre.length + n := by rw [List.length_append, List.length_map, upW_len]
   have hget : (((List.range n).map kp).map AV.bool)[k]? = some (.bool (kp k)) := by simp [hk2]
   have hle := plN_le kp k
   have hsu := plN_succ kp k
   simp (disch := omega) only [push_cast, simprocAttr, wrap_i64, toNat_ofInt64, Nat.min_eq_left, Int.toNat_of_nonneg, hk2, hbo, hset, hlen, hget]
   rw [upW_set kp hk2]
   have ho2 := put ((upW kp n (k + 1)).map (.int .i64)) (by simp [upW])
   refine ⟨by omega, fun hm => ?_, fun hm => ?_⟩
   ·rw [hm, if_pos rfl] at hsu
    exact ⟨_, _, by omega, .refl _, k + 1, rfl, by omega, ho2, by rw [hsu]; rfl⟩
   ·rw [hm, if_neg (by simp), Nat.add_zero] at hsu
    exact ⟨_, _, by omega, .refl _, k + 1, rfl, by omega, ho2, by rw [hsu]; rfl⟩
  ·obtain rfl : k = n := by omega
   simp only [push_cast, simprocAttr, hk2]
   rw [upW_all] at ho
   exact ho
 ·rintro r h' ho
  refine ⟨_, _, ⟨rfl, rfl⟩, ?_⟩
  have := ho.freeze
  have e : ints (upk kp n) = .ro ((upk kp n).map (.int .i64)) n := by show AV.ro _ _ = _; rw [upk_len]
  rw [e]
  exact this
theorem ddop_spec (o : IOp) (to xs : List Int) (hR : renOK to o) (hx : o.code = 4 ∨ o.code = 5 ∨ o.code = 6 → 0 ≤ o.x ∧ o.x < xs.length) (hy : o.code = 5 → 0 ≤ o.y ∧ o.y < xs.length) (pl : Nat → Nat) (hp : ∀ x : Int, 0 ≤ x → x < xs.length → xs.getD x.toNat 0 = pl x.toNat) (h6 : o.code ≤ 6) :
  Spec Tryz.prog G 110 [.agg o.cells, ints to, ints xs] h (Is (.agg (reX pl (ren to o)).cells) h) := by
 obtain ⟨hR1, hR2⟩ := hR
 refine Spec.is C110ok rfl ?_
 simp only [push_cast, simprocAttr]
 intro b3 hb3 b6 hb6
 have n := upd_none hb6
 have f1 : ¬ b6 = b3 := n.1
 have f2 : ¬ b3 = b6 := fun e => f1 e.symm
 have hs4 : ∀ X Y Z W, Sub h (Ab.upd (Ab.upd (Ab.upd (Ab.upd h b3 X) b6 Y) b3 Z) b6 W) := fun X Y Z W => sub_upd n.2 (sub_upd hb3 (sub_upd n.2 (sub_upd hb3 (.refl _))))
 have hs3 : ∀ X W, Sub h (Ab.upd (Ab.upd h b3 X) b6 W) := fun X W => sub_upd n.2 (sub_upd hb3 (.refl _))
 by_cases c5 : o.code = 5
 ·obtain ⟨⟨a0, a1⟩, b0, b1⟩ := hR1 (by omega)
  obtain ⟨x0, x1⟩ := hx (by omega)
  obtain ⟨y0, y1⟩ := hy c5
  have p1 := hp _ x0 x1
  have p2 := hp _ y0 y1
  have q1 : o.a.toNat < to.length := by omega
  have q2 : o.b.toNat < to.length := by omega
  have q3 : o.x.toNat < xs.length := by omega
  have q4 : o.y.toNat < xs.length := by omega
  have hre : reX pl (ren to o) = ⟨5, to.getD o.a.toNat 0, to.getD o.b.toNat 0, o.imm, pl o.x.toNat, pl o.y.toNat⟩ := by unfold ren reX; simp [c5]
  simp (disch := omega) only [push_cast, simprocAttr, wrap_i64, toNat_ofInt64, Nat.min_eq_left, Int.toNat_of_nonneg, upd_at, f1, f2, a0, a1, b0, b1, x0, x1, y0, y1, q1, q2, q3, q4, p1, p2, c5]
  exact ⟨by rw [hre], hs4 _ _ _ _⟩
 by_cases c6 : o.code = 6
 ·obtain ⟨⟨a0, a1⟩, b0, b1⟩ := hR1 (by omega)
  obtain ⟨x0, x1⟩ := hx (by omega)
  have p1 := hp _ x0 x1
  have q1 : o.a.toNat < to.length := by omega
  have q2 : o.b.toNat < to.length := by omega
  have q3 : o.x.toNat < xs.length := by omega
  have hre : reX pl (ren to o) = ⟨6, to.getD o.a.toNat 0, to.getD o.b.toNat 0, o.imm, pl o.x.toNat, o.y⟩ := by unfold ren reX; simp [c6]
  simp (disch := omega) only [push_cast, simprocAttr, wrap_i64, toNat_ofInt64, Nat.min_eq_left, Int.toNat_of_nonneg, upd_at, f1, f2, a0, a1, b0, b1, x0, x1, q1, q2, q3, p1, c6]
  exact ⟨by rw [hre], hs4 _ _ _ _⟩
 by_cases c3 : o.code = 3
 ·obtain ⟨⟨a0, a1⟩, b0, b1⟩ := hR1 (by omega)
  have q1 : o.a.toNat < to.length := by omega
  have q2 : o.b.toNat < to.length := by omega
  have hre : reX pl (ren to o) = ⟨3, to.getD o.a.toNat 0, to.getD o.b.toNat 0, o.imm, o.x, o.y⟩ := by unfold ren reX; simp [c3]
  simp (disch := omega) only [push_cast, simprocAttr, wrap_i64, toNat_ofInt64, Nat.min_eq_left, Int.toNat_of_nonneg, upd_at, f1, f2, a0, a1, b0, b1, q1, q2, c3]
  exact ⟨by rw [hre], hs4 _ _ _ _⟩
 by_cases c4 : o.code = 4
 ·obtain ⟨a0, a1⟩ := hR2 (by omega)
  obtain ⟨x0, x1⟩ := hx (by omega)
  have p1 := hp _ x0 x1
  have q1 : o.a.toNat < to.length := by omega
  have q3 : o.x.toNat < xs.length := by omega
  have hre : reX pl (ren to o) = ⟨4, to.getD o.a.toNat 0, o.b, o.imm, pl o.x.toNat, o.y⟩ := by unfold ren reX; simp [c4]
  simp (disch := omega) only [push_cast, simprocAttr, wrap_i64, toNat_ofInt64, Nat.min_eq_left, Int.toNat_of_nonneg, upd_at, f1, f2, a0, a1, x0, x1, q1, q3, p1, c4]
  exact ⟨by rw [hre], hs4 _ _ _ _⟩
 ·have hre : reX pl (ren to o) = o := by unfold ren; rw [if_neg (by omega), if_neg c4]; exact reX0 pl (by omega)
  simp (disch := omega) only [push_cast, simprocAttr, wrap_i64, toNat_ofInt64, Nat.min_eq_left, Int.toNat_of_nonneg, upd_at, f1, f2, c5, c6, c3, c4]
  exact ⟨by rw [hre], hs3 _ _⟩
def mapD (b : IBk) (to : List Int) (m : List IVl) (k : Nat) : List IVl := ((m.take k).filter fun v => !ownV b v).map (renV to)
theorem mapD_succ (b : IBk) (to : List Int) (m : List IVl) (k : Nat) (hk : k < m.length) : mapD b to m (k + 1) = if ownV b (m.getD k IVl.zero) then mapD b to m k else mapD b to m k ++ [renV to (m.getD k IVl.zero)] := by
 unfold mapD
 rw [List.take_add_one, List.filter_append, List.map_append]
 cases ho : ownV b (m.getD k IVl.zero) <;> simp [hk] at ho ⊢ <;> simp [ho]
theorem ddexit_spec (b : IBk) (e : IEx) (to : List Int) (hlen : to.length = b.ops.length) (hok : exOK to e) (hl : e.map.length ≤ 1000000000000) :
  Spec Tryz.prog G 111 [bkP b, .agg e.cells, ints to] h (fun r h' => ∃ g w, r = .agg (exC (trE b to e) w) ∧ Sub h g ∧ Own 2 g w ((trE b to e).map.flatMap IVl.cells) (trE b to e).map.length h') := by
 obtain ⟨ok1, ok2⟩ := hok
 have hmE : (trE b to e).map = mapD b to e.map e.map.length := by unfold trE renE mapD; simp only [List.take_length]
 have tail : ∀ b4 b6 e1 Z H, b6 ≠ b4 → h b4 = none → h b6 = none → exC (trE b to e) = exC e1 → H = Ab.upd (Ab.upd h b4 ⟨exC e1 .nils, 0⟩) b6 ⟨Z, 0⟩ → Z.length = 5 →
   wpc Tryz.prog G Tryz.f111.ntmps C111_27 (retQ C111r (fun r h' => ∃ g w, r = .agg (exC (trE b to e) w) ∧ Sub h g ∧ Own 2 g w ((trE b to e).map.flatMap IVl.cells) (trE b to e).map.length h')) [(0, bkP b), (2, ints to), (4, .ptr b4 0), (6, .ptr b6 0), (7, vls e.map)] H := by
  rintro b4 b6 e1 Z H n64 h4 h6 hex rfl hZ
  rw [hex]
  simp only [push_cast, simprocAttr]
  refine lpc.rel [0, 2, 4, 6, 22, 23, 24] (fun m ρ h' => ∃ (k : Nat) (w : AV), m = e.map.length - k ∧ k ≤ e.map.length ∧ Own 2 (Ab.upd (Ab.upd h b4 ⟨exC e1 w, 0⟩) b6 ⟨Z, 0⟩) w ((mapD b to e.map k).flatMap IVl.cells) (mapD b to e.map k).length h' ∧
   ρ = [(0, bkP b), (2, ints to), (4, .ptr b4 0), (6, .ptr b6 0), (22, vls e.map), (23, .int .i64 (e.map.length : Int)), (24, .int .i64 (k : Int))]) ⟨_, 0, .nils, rfl, by omega, .nil, rfl⟩ ?_
  rintro m _ h2 ⟨k, w, rfl, hk, ho, rfl⟩
  have k4 : (Ab.upd (Ab.upd h b4 ⟨exC e1 w, 0⟩) b6 ⟨Z, 0⟩) b4 = some ⟨exC e1 w, 0⟩ := by rw [upd_ne (Ne.symm n64)]; exact upd_same _ _ _
  have k6 : (Ab.upd (Ab.upd h b4 ⟨exC e1 w, 0⟩) b6 ⟨Z, 0⟩) b6 = some ⟨Z, 0⟩ := upd_same _ _ _
  have j4 := ho.get k4
  have j6 := ho.get k6
  have x4 : (exC e1 w)[4]? = some w := rfl
  have xl : (exC e1 w).length = 5 := rfl
  by_cases hk2 : k < e.map.length
  ·have hv2 : 0 ≤ (e.map.getD k IVl.zero).val ∧ (e.map.getD k IVl.zero).val < to.length := ok2 _ (by rw [List.getD_eq_getElem?_getD, List.getElem?_eq_getElem hk2]; simp)
   have hsu := mapD_succ b to e.map k hk2
   have hmk : (mapD b to e.map k).length ≤ k := by unfold mapD; rw [List.length_map]; exact Nat.le_trans (List.length_filter_le _ _) (by simp; omega)
   generalize hv : e.map.getD k IVl.zero = v at *
   obtain ⟨v0, v1⟩ := hv2
   have q : v.val.toNat < to.length := by omega
   simp only [push_cast, simprocAttr, hk2, hv]
   intro c' hc'
   rw [era_none hc']
   refine (own_spec b v v0 (by omega)).to ?_
   cases hw : ownV b v with
   | true =>
    rw [hw, if_pos rfl] at hsu
    simp (disch := omega) only [push_cast, simprocAttr, wrap_i64, toNat_ofInt64, Nat.min_eq_left, Int.toNat_of_nonneg]
    exact ⟨_, _, by omega, .refl _, k + 1, w, rfl, by omega, by rw [hsu]; exact ho, rfl⟩
   | false =>
    rw [hw, if_neg (by simp)] at hsu
    simp (disch := omega) only [push_cast, simprocAttr, wrap_i64, toNat_ofInt64, Nat.min_eq_left, Int.toNat_of_nonneg, j4, x4, v0, v1, q]
    refine Own.app ho (m := 1) rfl (by omega) (by omega) fun w5 h5 o5 => ?_
    have hone := o5.one
    have j45 := o5.get k4
    have xs : (exC e1 w).set 4 w5 = exC e1 w5 := rfl
    simp (disch := omega) only [push_cast, simprocAttr, wrap_i64, toNat_ofInt64, Nat.min_eq_left, Int.toNat_of_nonneg, j45, hone, xl, xs]
    refine ⟨_, _, by omega, .refl _, k + 1, w5, rfl, by omega, ?_, rfl⟩
    have o6 := o5.upd (b := b4) (x := ⟨exC e1 w5, 0⟩) (.inr ⟨_, k4⟩)
    rw [upd_comm (h := Ab.upd h b4 ⟨exC e1 w, 0⟩) n64, upd_upd] at o6
    rw [hsu, List.flatMap_append, List.length_append]
    exact o6
  ·obtain rfl : k = e.map.length := by omega
   simp (disch := omega) only [push_cast, simprocAttr, wrap_i64, toNat_ofInt64, Nat.min_eq_left, Int.toNat_of_nonneg, hk2, j4, j6, xl, hZ]
   rw [hmE]
   have oF := ho.upd (b := b6) (x := ⟨exC e1 w, 0⟩) (.inr ⟨_, k6⟩)
   exact ⟨Ab.upd (Ab.upd (Ab.upd h b4 ⟨exC e1 w, 0⟩) b6 ⟨Z, 0⟩) b6 ⟨exC e1 w, 0⟩, w, rfl, sub_upd h6 (sub_upd h6 (sub_upd h4 (.refl _))), oF⟩
 refine Spec.walk C111ok rfl ?_
 show wpc _ _ _ (.seq [0, 2, 4, 6] C111_0 (.seq [0, 2, 4, 6, 7] C111_1 (.seq [0, 2, 4, 6, 7] C111_2 (.seq [0, 2, 4, 6, 7] C111_6 C111_27)))) _ _ _
 generalize C111_27 = Y at tail ⊢
 simp only [push_cast, simprocAttr]
 intro b4 hb4 b6 hb6
 have n := upd_none hb6
 have f1 : ¬ b6 = b4 := n.1
 have f2 : ¬ b4 = b6 := fun e => f1 e.symm
 have e4 : e.cells[4]? = some (vls e.map) := rfl
 have es4 : e.cells.set 4 .nils = exC e .nils := rfl
 have x2 : (exC e .nils)[2]? = some (.int .i64 e.to) := rfl
 have xl : (exC e .nils).length = 5 := rfl
 have xs : ∀ x : Int, (exC e .nils).set 2 (.int .i64 x) = exC { e with to := x } .nils := fun _ => rfl
 by_cases ht : e.to = -1
 ·simp only [push_cast, simprocAttr, upd_at, f1, f2, e4, es4, x2, xl, ht]
  refine tail b4 b6 e [.int .i64 0, .int .u32 0, .int .i64 0, .int .i64 0, .nils] _ f1 hb4 n.2 ?_ ?_ rfl
  ·funext w
   unfold trE renE
   rw [if_pos ht]
   unfold exC
   rw [ht]
  ·rw [upd_comm (h := Ab.upd h b4 ⟨e.cells, 0⟩) f1, upd_upd]
 ·have q : 0 ≤ e.to ∧ e.to < to.length := by omega
  obtain ⟨q0, q1⟩ := q
  have q2 : e.to.toNat < to.length := by omega
  simp (disch := omega) only [push_cast, simprocAttr, wrap_i64, toNat_ofInt64, Nat.min_eq_left, Int.toNat_of_nonneg, upd_at, f1, f2, e4, es4, x2, xl, ht, q0, q1, q2, xs]
  refine tail b4 b6 { e with to := to.getD e.to.toNat 0 } [.int .i64 0, .int .u32 0, .int .i64 0, .int .i64 0, .nils] _ f1 hb4 n.2 ?_ ?_ rfl
  ·funext w
   unfold trE renE
   rw [if_neg ht]
   rfl
  ·rw [upd_comm (h := Ab.upd h b4 ⟨e.cells, 0⟩) f1, upd_upd]
end Go.Ab
end
section
namespace Go.Ab
open Go.Proofs
variable {G : Glo} {h : Heap}
theorem own_small {sz n : Nat} {g h' : Heap} {v : AV} {c : List AV} (hs : Sub h g) (ho : Own sz g v c n h') : ∃ h2, Own sz h v c n h2 ∧ Sub h2 h' := by
 cases ho with
 | nil => exact ⟨h, .nil, hs⟩
 | row b n cap pre cells sp hb hl hc =>
  refine ⟨_, .row b n cap pre c sp (hs.none hb) hl hc, fun d y hd => ?_⟩
  rw [upd_at] at hd ⊢
  by_cases e : d = b
  ·rw [if_pos e] at hd ⊢; exact hd
  ·rw [if_neg e] at hd ⊢; exact hs d y hd
theorem ddexit_spec' (b : IBk) (e : IEx) (to : List Int) (hlen : to.length = b.ops.length) (hok : exOK to e) (hl : e.map.length ≤ 1000000000000) :
  Spec Tryz.prog G 111 [bkP b, .agg e.cells, ints to] h (fun r h' => ∃ w, r = .agg (exC (trE b to e) w) ∧ Own 2 h w ((trE b to e).map.flatMap IVl.cells) (trE b to e).map.length h') := by
 refine Spec.weak (ddexit_spec b e to hlen hok hl) ?_
 rintro _ h' ⟨g, w, rfl, hs, ho⟩
 obtain ⟨h2, o2, s2⟩ := own_small hs ho
 exact ⟨_, h2, ⟨w, rfl, o2⟩, le_sub s2 (Le.refl _ _)⟩
theorem deadDo_spec (b : IBk) (hw : b.wf) (hc : b.check = 0) : Spec Tryz.prog G 69 [bkP b] h (Is (.tup [bkP (b.dd (askN b)), .int .i64 0]) h) := by
 obtain ⟨hops, hexs⟩ := right_parts hc
 obtain ⟨hs1, hs2, hs3⟩ := hw.hs
 have hK := askN_ok b hc
 refine Spec.weak (Q := fun r h' => ∃ b8 g vx, r = .tup [.ptr b8 0, .int .i64 0] ∧ h b8 = none ∧ Sub h g ∧ g b8 = some ⟨[.ro (wds b.pcs) b.pcs.length, ops (b.dd (askN b)).ops, vx, .int .i64 (b.dd (askN b)).last], 0⟩ ∧ ExO g vx (b.dd (askN b)).exits h') ?_ ?_
 ·refine Spec.walk C69ok rfl ?_
  simp only [push_cast, simprocAttr]
  refine (Check_spec b hw).to ?_
  rw [hc]
  simp only [push_cast, simprocAttr]
  refine (dasked_spec b hw hc).to ?_
  simp only [push_cast, simprocAttr]
  intro c5 hc5
  rw [era_none hc5]
  refine (renumber_spec (askN b) b.ops.length hs1).to ?_
  simp only [push_cast, simprocAttr]
  refine (renumber_spec (namedX b.ops b.last) b.exits.length hs2).to ?_
  have hul := upk_len (askN b) b.ops.length
  have hxl := upk_len (namedX b.ops b.last) b.exits.length
  have hlast : b.exit b.last b.ops.length = true := by
   have := chk_right hc
   simp only [IBk.right, Bool.and_eq_true] at this
   exact this.2
  obtain ⟨⟨l0, l1⟩, _, _⟩ := exit_parts hlast
  have hgl := upk_get (kp := namedX b.ops b.last) (n := b.exits.length) (i := b.last.toNat) (by omega)
  have ql : b.last.toNat < b.exits.length := by omega
  generalize hto : upk (askN b) b.ops.length = to at *
  generalize hxs : upk (namedX b.ops b.last) b.exits.length = xs at *
  simp (disch := omega) only [push_cast, simprocAttr, wrap_i64, toNat_ofInt64, Nat.min_eq_left, Int.toNat_of_nonneg, hxl, l0, l1, ql, hgl]
  intro bp hbp
  have hp32 := (long_parts hc).1
  have hwl : (wds b.pcs).length = b.pcs.length := by simp [wds]
  refine Own.app (Own.row bp 0 0 [] [] 0 hbp rfl (by omega) : Own 1 h (.sl bp 0 0 0) [] 0 _) (m := b.pcs.length) (by omega) (by omega) (by omega) fun vp h1 o1 => ?_
  rw [List.nil_append, Nat.zero_add] at o1
  have hone := o1.one
  simp (disch := omega) only [push_cast, simprocAttr, wrap_i64, toNat_ofInt64, Nat.min_eq_left, Int.toNat_of_nonneg, hone, hxl, l0, l1, ql, hgl]
  intro b8 h8
  have h80 : h b8 = none := o1.sub.none h8
  generalize hlp : (plN (namedX b.ops b.last) b.last.toNat : Int) = lp at *
  generalize hpl : plN (namedX b.ops b.last) = pl at *
  have o1' := o1.upd (b := b8) (x := ⟨[vp, .nils, .nils, .int .i64 lp], 0⟩) (.inl h8)
  have hkd := fun k hk => kind_of (hops k hk)
  have hres := named_kept (kp := askN b) hK
  have hddo : (b.dd (askN b)).ops = (keptO (askN b) b b.ops.length).map (reX pl) := by
   show (keptO (askN b) b b.ops.length).map (reX (plN (namedX (keptO (askN b) b b.ops.length) b.last))) = _
   rw [← hpl, show namedX (keptO (askN b) b b.ops.length) b.last = namedX b.ops b.last from funext hres]
  have hddl : (b.dd (askN b)).last = lp := by
   show ((plN (namedX (keptO (askN b) b b.ops.length) b.last) b.last.toNat : Nat) : Int) = _
   rw [show namedX (keptO (askN b) b b.ops.length) b.last = namedX b.ops b.last from funext hres, hpl, ← hlp]
  have hdde : (b.dd (askN b)).exits = (keptE (namedX b.ops b.last) b.exits).map (trE b to) := by
   show (keptE (namedX (keptO (askN b) b b.ops.length) b.last) b.exits).map (trE b (upk (askN b) b.ops.length)) = _
   rw [show namedX (keptO (askN b) b b.ops.length) b.last = namedX b.ops b.last from funext hres, hto]
  rw [hddo, hddl, hdde]
  refine lpc.rel [0, 5, 6, 7, 8, 44, 45, 46] (fun m ρ h' => ∃ (k : Nat) (vo : AV) (h2 : Heap), m = b.ops.length - k ∧ k ≤ b.ops.length ∧ Own 1 (Ab.upd h b8 ⟨[vp, vo, .nils, .int .i64 lp], 0⟩) vp (wds b.pcs) b.pcs.length h2 ∧ Own 6 h2 vo (((keptO (askN b) b k).map (reX pl)).flatMap IOp.cells) ((keptO (askN b) b k).map (reX pl)).length h' ∧
   ρ = [(0, bkP b), (5, .cp [boolsV (askN b) b.ops.length, boolsV (namedX b.ops b.last) b.exits.length] 0), (6, ints to), (7, ints xs), (8, .ptr b8 0), (44, ops b.ops), (45, .int .i64 (b.ops.length : Int)), (46, .int .i64 (k : Int))]) ⟨_, 0, .nils, _, rfl, by omega, o1', .nil, rfl⟩ ?_
  rintro m _ h3 ⟨k, vo, h2, rfl, hk, p1, p2, rfl⟩
  by_cases hk2 : k < b.ops.length
  ·have hget : (((List.range b.ops.length).map (askN b)).map AV.bool)[k]? = some (.bool (askN b k)) := by simp [hk2]
   have hsu := keptO_succ (askN b) b k
   have hkl : ((keptO (askN b) b k).map (reX pl)).length ≤ k := by rw [List.length_map, keptO_len]; exact plN_le _ _
   have hO : b.ops.getD k IOp.zero = b.op k := rfl
   have k8 := upd_same h b8 ⟨[vp, vo, .nils, .int .i64 lp], 0⟩
   have j8 := p2.get (p1.get k8)
   simp (disch := omega) only [push_cast, simprocAttr, wrap_i64, toNat_ofInt64, Nat.min_eq_left, Int.toNat_of_nonneg, hk2, hO]
   intro c' hc'
   rw [era_none hc']
   simp (disch := omega) only [push_cast, simprocAttr, wrap_i64, toNat_ofInt64, Nat.min_eq_left, Int.toNat_of_nonneg, hk2, hget]
   refine ⟨fun hm => ?_, fun hm => ?_⟩
   ·rw [hm, if_pos rfl, hto] at hsu
    have hg := good_of (hops k hk2)
    have hb : ∀ x, vin b.ops k x → 0 ≤ x ∧ x < to.length := fun x ⟨a, _, c, _⟩ => ⟨a, by rw [hul]; exact c⟩
    have hR : renOK to (b.op k) := ⟨fun h => ⟨hb _ (hg.1 h).1, hb _ (hg.1 h).2⟩, fun h => hb _ (hg.2 h)⟩
    have hxx : ∀ x, takes (b.op k) x → 0 ≤ x ∧ x < xs.length := fun x h => by rw [hxl]; exact (exit_parts (opR_takes (hops k hk2) h)).1
    have h6 : (b.op k).code ≤ 6 := by
     have := hkd k hk2
     change kindN (b.op k) = true at this
     unfold kindN at this
     simp only at this
     (repeat' split at this) <;> first | omega | (cases this)
    have hD := fun H => ddop_spec (G := G) (h := H) (b.op k) to xs hR (fun h => hxx _ (.inl ⟨by omega, rfl⟩)) (fun h => hxx _ (.inr ⟨h, rfl⟩)) pl (fun x h0 h1 => by rw [← hxs, upk_get (by omega), hpl]) h6
    simp (disch := omega) only [push_cast, simprocAttr, wrap_i64, toNat_ofInt64, Nat.min_eq_left, Int.toNat_of_nonneg, j8]
    refine (hD _).to ?_
    simp (disch := omega) only [push_cast, simprocAttr, wrap_i64, toNat_ofInt64, Nat.min_eq_left, Int.toNat_of_nonneg, j8]
    refine Own.app p2 (m := 1) (IOp.len _) (by omega) (by omega) fun v5 h5 o5 => ?_
    have j85 := o5.get (p1.get k8)
    have hone5 := o5.one
    simp (disch := omega) only [push_cast, simprocAttr, wrap_i64, toNat_ofInt64, Nat.min_eq_left, Int.toNat_of_nonneg, j85, hone5]
    have p1' := p1.upd (b := b8) (x := ⟨[vp, v5, .nils, .int .i64 lp], 0⟩) (.inr ⟨_, k8⟩)
    rw [upd_upd] at p1'
    have o5' := o5.upd (b := b8) (x := ⟨[vp, v5, .nils, .int .i64 lp], 0⟩) (.inr ⟨_, p1.get k8⟩)
    refine ⟨_, _, by omega, .refl _, k + 1, v5, _, rfl, by omega, p1', ?_, rfl⟩
    rw [hsu, List.map_append, List.flatMap_append, List.length_append]
    simpa using o5'
   ·rw [hm, if_neg (by simp)] at hsu
    exact ⟨_, _, by omega, .refl _, k + 1, vo, h2, rfl, by omega, p1, by rw [hsu]; exact p2, rfl⟩
  ·obtain rfl : k = b.ops.length := by omega
   simp only [push_cast, simprocAttr, hk2]
   generalize (keptO (askN b) b b.ops.length).map (reX pl) = l at *
   have e1 := upd_self (p1.get (upd_same _ _ _))
   rw [← e1] at p2
   have p1' := p1.upd (b := b8) (x := ⟨[vp, ops l, .nils, .int .i64 lp], 0⟩) (.inr ⟨_, upd_same _ _ _⟩)
   rw [upd_upd] at p1'
   refine ⟨_, _, le_trans (Le.cell p2 (cs' := [vp, ops l, .nils, .int .i64 lp]) rfl (fun i => ?_)) (Le.cell p1' (cs' := [.ro (wds b.pcs) b.pcs.length, ops l, .nils, .int .i64 lp]) rfl (fun i => ?_)), ?_⟩
   ·match i with
    | 0 => exact .inl rfl
    | 1 => exact .inr ⟨rfl, rfl⟩
    | 2 => exact .inl rfl
    | 3 => exact .inl rfl
    | i + 4 => exact .inl rfl
   ·match i with
    | 0 => exact .inr ⟨rfl, rfl⟩
    | 1 => exact .inl rfl
    | 2 => exact .inl rfl
    | 3 => exact .inl rfl
    | i + 4 => exact .inl rfl
   clear p1 p2 p1' e1 hddo hddl hdde
   simp only [push_cast, simprocAttr]
   generalize hnm : namedX b.ops b.last = nm at *
   refine lpc.rel [0, 5, 6, 8, 73, 74, 75] (fun m ρ h' => ∃ (k : Nat) (vx : AV), m = b.exits.length - k ∧ k ≤ b.exits.length ∧ ExO (Ab.upd h b8 ⟨[.ro (wds b.pcs) b.pcs.length, ops l, vx, .int .i64 lp], 0⟩) vx (((List.range k).filter nm).map fun n => trE b to (b.exits.getD n IEx.zero)) h' ∧
    ρ = [(0, bkP b), (5, .cp [boolsV (askN b) b.ops.length, boolsV nm b.exits.length] 0), (6, ints to), (8, .ptr b8 0), (73, exs b.exits), (74, .int .i64 (b.exits.length : Int)), (75, .int .i64 (k : Int))]) ⟨_, 0, .nils, rfl, by omega, ⟨_, [], .nil, .nil⟩, rfl⟩ ?_
   rintro m _ h4 ⟨k, vx, rfl, hk, hx, rfl⟩
   have k8 := upd_same h b8 ⟨[.ro (wds b.pcs) b.pcs.length, ops l, vx, .int .i64 lp], 0⟩
   have j8 := hx.sub _ _ k8
   by_cases hk3 : k < b.exits.length
   ·have hget : (((List.range b.exits.length).map nm).map AV.bool)[k]? = some (.bool (nm k)) := by simp [hk3]
    have hml := getD_map (n := k) hs3
    have hD := fun H => ddexit_spec' (G := G) (h := H) b (b.exits.getD k IEx.zero) to hul (exOK_of (hexs k hk3) hul) hml
    have hsu : ((List.range (k + 1)).filter nm).map (fun n => trE b to (b.exits.getD n IEx.zero)) = if nm k then ((List.range k).filter nm).map (fun n => trE b to (b.exits.getD n IEx.zero)) ++ [trE b to (b.exits.getD k IEx.zero)] else ((List.range k).filter nm).map (fun n => trE b to (b.exits.getD n IEx.zero)) := by
     rw [List.range_succ, List.filter_append, List.map_append]
     cases hm : nm k <;> simp [hm]
    have hel : (((List.range k).filter nm).map fun n => trE b to (b.exits.getD n IEx.zero)).length ≤ k := by rw [List.length_map]; exact Nat.le_trans (List.length_filter_le _ _) (by simp)
    generalize hE : b.exits.getD k IEx.zero = e at *
    generalize ((List.range k).filter nm).map (fun n => trE b to (b.exits.getD n IEx.zero)) = es at *
    simp (disch := omega) only [push_cast, simprocAttr, wrap_i64, toNat_ofInt64, Nat.min_eq_left, Int.toNat_of_nonneg, hk3, hE]
    intro c' hc'
    rw [era_none hc']
    simp (disch := omega) only [push_cast, simprocAttr, wrap_i64, toNat_ofInt64, Nat.min_eq_left, Int.toNat_of_nonneg, hk3, hget]
    refine ⟨fun hm => ?_, fun hm => ?_⟩
    ·rw [hm, if_pos rfl] at hsu
     simp (disch := omega) only [push_cast, simprocAttr, wrap_i64, toNat_ofInt64, Nat.min_eq_left, Int.toNat_of_nonneg, j8]
     refine (hD _).mono ?_
     rintro _ h6 ⟨w, rfl, ow⟩
     obtain ⟨g1, cs, q1, q2⟩ := hx.snoc ow
     have hcx : exC (trE b to e) w = [.int .i64 (trE b to e).done, .int .u32 ((trE b to e).pc.toNat : Int), .int .i64 (trE b to e).to, .int .i64 (trE b to e).why, w] := rfl
     have hw1 := ow.one
     rw [hcx]
     have j86 := ow.get j8
     simp (disch := omega) only [push_cast, simprocAttr, wrap_i64, toNat_ofInt64, Nat.min_eq_left, Int.toNat_of_nonneg, hw1, j86]
     refine Own.app q1 (m := 1) rfl (by omega) (by omega) fun v5 h5 o5 => ?_
     have hx5 := q2 v5 h5 (by rw [hcx]; exact o5)
     have j85 := hx5.sub _ _ k8
     have hone5 := o5.one
     simp (disch := omega) only [push_cast, simprocAttr, wrap_i64, toNat_ofInt64, Nat.min_eq_left, Int.toNat_of_nonneg, j85, hone5]
     have hx6 := hx5.upd (b := b8) (x := ⟨[.ro (wds b.pcs) b.pcs.length, ops l, v5, .int .i64 lp], 0⟩) (.inr ⟨_, k8⟩)
     rw [upd_upd] at hx6
     exact ⟨_, _, by omega, .refl _, k + 1, v5, rfl, by omega, by rw [hsu]; exact hx6, rfl⟩
    ·rw [hm, if_neg (by simp)] at hsu
     exact ⟨_, _, by omega, .refl _, k + 1, vx, rfl, by omega, by rw [hsu]; exact hx, rfl⟩
   ·obtain rfl : k = b.exits.length := by omega
    simp only [push_cast, simprocAttr, hk3]
    refine wkQ.same ?_
    simp only [push_cast, simprocAttr]
    refine ⟨b8, _, vx, rfl, h80, sub_upd h80 (.refl _), k8, ?_⟩
    have he : (keptE nm b.exits).map (trE b to) = ((List.range b.exits.length).filter nm).map fun n => trE b to (b.exits.getD n IEx.zero) := by
     unfold keptE; rw [List.map_map]; rfl
    rw [he]
    exact hx
 ·rintro _ _ ⟨b8, g, vx, rfl, h8, hs, hg, hx⟩
  exact ⟨_, _, ⟨rfl, rfl⟩, le_tup1 (exo_le (b := b.dd (askN b)) hs h8 hg hx)⟩
end Go.Ab
end
section
namespace Go.Ab
theorem smT_sum (es : List IEx) : ∀ n, n ≤ es.length → smT es n = ((List.range n).map fun i => (es.getD i IEx.zero).map.length).sum := by
 intro n
 induction n with
 | zero => intro _; rfl
 | succ n ih =>
  intro hn
  rw [smT, ih (by omega), List.range_succ, List.map_append, List.sum_append]
  simp
theorem sum_filter_le (nm : Nat → Bool) (f g : Nat → Nat) (hfg : ∀ i, f i ≤ g i) : ∀ l : List Nat, ((l.filter nm).map f).sum ≤ (l.map g).sum := by
 intro l
 induction l with
 | nil => simp
 | cons a l ih =>
  have := hfg a
  rw [List.filter_cons]
  split
  ·simp only [List.map_cons, List.sum_cons]; omega
  ·simp only [List.map_cons, List.sum_cons]; omega
theorem smT_all (es : List IEx) : smT es es.length = (es.map fun e => e.map.length).sum := by
 rw [smT_sum es _ (Nat.le_refl _)]
 congr 1
 apply List.ext_getElem
 ·simp
 ·intro i h1 h2
  have hi : i < es.length := by simpa using h2
  simp [hi]
theorem kept_sm (nm : Nat → Bool) (es : List IEx) (tr : IEx → IEx) (ht : ∀ e, (tr e).map.length ≤ e.map.length) : smT ((keptE nm es).map tr) ((keptE nm es).map tr).length ≤ smT es es.length := by
 rw [smT_all, smT_sum es _ (Nat.le_refl _)]
 unfold keptE
 rw [List.map_map, List.map_map]
 exact sum_filter_le nm _ _ (fun i => ht _) _
structure NoL (b' b : IBk) : Prop where
 pcs : b'.pcs = b.pcs
 ops : b'.ops.length ≤ b.ops.length
 exits : b'.exits.length ≤ b.exits.length
 map : ∀ e ∈ b'.exits, ∃ e' ∈ b.exits, e.map.length ≤ e'.map.length
 size : b'.size ≤ b.size
theorem NoL.refl (b : IBk) : NoL b b := ⟨rfl, Nat.le_refl _, Nat.le_refl _, fun e h => ⟨e, h, Nat.le_refl _⟩, Nat.le_refl _⟩
theorem NoL.trans {a b c : IBk} (h1 : NoL a b) (h2 : NoL b c) : NoL a c :=
 ⟨h1.pcs.trans h2.pcs, Nat.le_trans h1.ops h2.ops, Nat.le_trans h1.exits h2.exits, fun e he => by
  obtain ⟨e', q1, q2⟩ := h1.map e he
  obtain ⟨e2, q3, q4⟩ := h2.map e' q1
  exact ⟨e2, q3, Nat.le_trans q2 q4⟩, Nat.le_trans h1.size h2.size⟩
theorem NoL.wf {b' b : IBk} (h : NoL b' b) (hw : b.wf) : b'.wf := by
 obtain ⟨h1, h2, h3, h4, h5, h6, h7, h8⟩ := hw
 have e1 := h.ops
 have e2 := h.exits
 have e3 := h.pcs
 refine ⟨by rw [e3]; exact h1, by omega, by omega, fun e he => ?_, by rw [e3]; exact h5, by omega, by omega, fun e he => ?_⟩
 all_goals
  obtain ⟨e', q1, q2⟩ := h.map e he
  have a := h4 e' q1
  have b := h8 e' q1
  omega
theorem ps_nol (f : Rw) (b : IBk) : NoL (b.ps f) b := by
 have hll := psN_l f b.ops
 have hx : (b.ps f).exits = b.exits.map (renE (psN f b.ops).to) := rfl
 have hren : ∀ e, (renE (psN f b.ops).to e).map.length = e.map.length := fun e => by simp [renE]
 have hsm : smT (b.ps f).exits (b.ps f).exits.length = smT b.exits b.exits.length := by
  rw [smT_all, smT_all, hx, List.map_map]
  congr 1
  refine List.map_congr_left fun e _ => hren e
 refine ⟨rfl, hll, by rw [hx, List.length_map]; exact Nat.le_refl _, fun e he => ?_, ?_⟩
 ·rw [hx, List.mem_map] at he
  obtain ⟨e', q1, rfl⟩ := he
  exact ⟨e', q1, by rw [hren]; exact Nat.le_refl _⟩
 ·unfold IBk.size
  have : (b.ps f).ops.length ≤ b.ops.length := hll
  have e2 : (b.ps f).exits.length = b.exits.length := by rw [hx, List.length_map]
  omega
theorem pr_nol {b : IBk} {l : List IOp} {last : Int} {tr : IEx → IEx} (hl : l.length ≤ b.ops.length) (ht : ∀ e, (tr e).map.length ≤ e.map.length) : NoL (prB b.pcs l b.exits last tr) b := by
 have hx : (prB b.pcs l b.exits last tr).exits = (keptE (namedX l last) b.exits).map tr := rfl
 have ho : (prB b.pcs l b.exits last tr).ops.length = l.length := by simp [prB]
 have hk : ((keptE (namedX l last) b.exits).map tr).length ≤ b.exits.length := by rw [List.length_map, kept_len]; exact plN_le _ _
 have hsm := kept_sm (namedX l last) b.exits tr ht
 refine ⟨rfl, by omega, by rw [hx]; exact hk, fun e he => ?_, ?_⟩
 ·rw [hx, List.mem_map] at he
  obtain ⟨e', q1, rfl⟩ := he
  unfold keptE at q1
  rw [List.mem_map] at q1
  obtain ⟨n, q2, rfl⟩ := q1
  rw [List.mem_filter, List.mem_range] at q2
  refine ⟨b.exits.getD n IEx.zero, ?_, ht _⟩
  rw [List.getD_eq_getElem?_getD, List.getElem?_eq_getElem q2.1]
  simp
 ·unfold IBk.size
  rw [hx] at *
  omega
theorem gd_nol {b : IBk} (hc : b.check = 0) : NoL b.gd b := by
 obtain ⟨m, hm, e1, e2⟩ := gScan_at b.ops b.last b.ops.length 0 (by omega)
 rw [List.drop_zero, List.take_zero] at e1
 have e0 : psN gF [] = ⟨[], []⟩ := rfl
 rw [e0] at e1
 unfold IBk.gd
 refine pr_nol ?_ fun e => by simp [renE]
 rw [e1]
 have := psN_l gF (b.ops.take m)
 rw [List.length_take] at this
 omega
theorem dd_nol (b : IBk) (kp : Nat → Bool) : NoL (b.dd kp) b := by
 unfold IBk.dd
 refine pr_nol (by rw [keptO_len]; exact plN_le _ _) fun e => ?_
 unfold trE renE
 simp only [List.length_map]
 exact List.length_filter_le _ _
noncomputable def passN (bit : Int) (b : IBk) : IBk := if bit = 1 then b.ps foldF else if bit = 2 then b.ps numF else if bit = 4 then b.gd else b.dd (askN b)
theorem passN_ok (bit : Int) {b : IBk} (hc : b.check = 0) : (passN bit b).check = 0 ∧ NoL (passN bit b) b ∧ True := by
 unfold passN
 split
 ·exact ⟨ps_check fold_ok hc, ps_nol _ _, trivial⟩
 split
 ·exact ⟨ps_check num_ok hc, ps_nol _ _, trivial⟩
 split
 ·exact ⟨gd_check hc, gd_nol hc, trivial⟩
 ·exact ⟨dd_check hc (askN_ok b hc), dd_nol _ _, trivial⟩
def kAnd (mask bit : Int) : Int := IntKind.i64.wrap ((BitVec.ofInt 64 mask &&& BitVec.ofInt 64 bit).toNat : Int)
def bitM (mask bit : Int) : Bool := decide (kAnd mask bit ≠ 0)
noncomputable def roundK (mask : Int) (b : IBk) : List Int → IBk
 | [] => b
 | bit :: r => roundK mask (if bitM mask bit then passN bit b else b) r
noncomputable def roundN (mask : Int) (b : IBk) : IBk := roundK mask b [1, 2, 4, 8]
noncomputable def runP (mask : Int) : Nat → IBk → IBk
 | 0, b => b
 | n + 1, b => if roundN mask b = b then roundN mask b else runP mask n (roundN mask b)
structure Kps (b' b : IBk) : Prop where
 check : b'.check = 0
 nol : NoL b' b
 res : True
theorem Kps.refl {b : IBk} (hc : b.check = 0) : Kps b b := ⟨hc, .refl b, trivial⟩
theorem Kps.trans {a b c : IBk} (h1 : Kps a b) (h2 : Kps b c) : Kps a c := ⟨h1.check, h1.nol.trans h2.nol, trivial⟩
theorem pass_kps (bit : Int) {b : IBk} (hc : b.check = 0) : Kps (passN bit b) b := by
 obtain ⟨h1, h2, h3⟩ := passN_ok bit hc
 exact ⟨h1, h2, h3⟩
theorem roundK_kps (mask : Int) : ∀ (l : List Int) {b : IBk}, b.check = 0 → Kps (roundK mask b l) b := by
 intro l
 induction l with
 | nil => intro b hc; exact .refl hc
 | cons bit r ih =>
  intro b hc
  rw [roundK]
  split
  ·have h := pass_kps bit hc
   exact (ih h.check).trans h
  ·exact ih hc
theorem round_kps (mask : Int) {b : IBk} (hc : b.check = 0) : Kps (roundN mask b) b := roundK_kps mask _ hc
theorem run_kps (mask : Int) : ∀ (n : Nat) {b : IBk}, b.check = 0 → Kps (runP mask n b) b := by
 intro n
 induction n with
 | zero => intro b hc; exact .refl hc
 | succ n ih =>
  intro b hc
  have h := round_kps mask hc
  rw [runP]
  split
  ·exact h
  ·exact (ih h.check).trans h
theorem fw_kps {b : IBk} (hc : b.check = 0) : Kps b.fw b := by
 refine ⟨?_, ?_, trivial⟩
 ·rw [fw_eq]; exact ps_check fwF_ok hc
 ·rw [fw_eq]; exact ps_nol _ _
end Go.Ab
end
section
namespace Go.Ab
open Go.Proofs
variable {G : Glo} {h : Heap}
theorem pone_spec (bit : Int) (b : IBk) (hw : b.wf) (hc : b.check = 0) : Spec Tryz.prog G 33 [.int .i64 bit, bkP b] h (Is (.tup [bkP (passN bit b), .int .i64 0]) h) := by
 unfold passN
 refine Spec.is C33ok rfl ?_
 by_cases c1 : bit = 1
 ·subst c1
  simp only [push_cast, simprocAttr]
  refine (foldDo_spec b hw hc).to ?_
  simp only [push_cast, simprocAttr]
  try rfl
 by_cases c2 : bit = 2
 ·subst c2
  simp only [push_cast, simprocAttr]
  refine (numDo_spec b hw hc).to ?_
  simp only [push_cast, simprocAttr]
  try rfl
 by_cases c4 : bit = 4
 ·subst c4
  simp only [push_cast, simprocAttr]
  refine (guardDo_spec b hw hc).to ?_
  simp only [push_cast, simprocAttr]
  try rfl
 ·rw [if_neg c1, if_neg c2, if_neg c4]
  simp only [push_cast, simprocAttr, c1, c2, c4]
  refine (deadDo_spec b hw hc).to ?_
  simp only [push_cast, simprocAttr]
  try rfl
theorem bits_each {mask : Int} {H : Heap} {l : Nat} (hy : YOk Tryz.prog G) (J : Nat → Heap → Prop)
  (hJ : ∀ k h1 (Q : AV → Heap → Prop), k < 4 → bitM mask ([1, 2, 4, 8].getD k 0) = true → J k h1 → (∀ h2, J (k + 1) h2 → Q (.bool true) h2) → G.y l [.int .i64 ([1, 2, 4, 8].getD k 0)] h1 Q)
  (hN : ∀ k h1, k < 4 → bitM mask ([1, 2, 4, 8].getD k 0) = false → J k h1 → J (k + 1) h1) (h0 : J 0 H) :
  Spec Tryz.prog G 65 [.yl l, .cp [.int .i64 mask] 0] H (fun r h2 => r = .tup [] ∧ J 4 h2) := by
 refine Spec.walk C65ok rfl ?_
 simp only [push_cast, simprocAttr]
 refine lpc.rel [0, 1, 3] (fun m ρ H' => ∃ k : Nat, m = 4 - k ∧ k ≤ 4 ∧ J k H' ∧ ρ = [(0, .yl l), (1, .cp [.int .i64 mask] 0), (3, .int .i64 (2 ^ k : Nat))]) ⟨_, 0, rfl, by omega, h0, rfl⟩ ?_
 rintro m _ H' ⟨k, rfl, hk, hj, rfl⟩
 have hJk := fun Q => hJ k H' Q
 have hNk := hN k H'
 have ha : ∀ x, abin BinOp.and (.int .i64 mask) (.int .i64 x) = some (.int .i64 (kAnd mask x)) := fun _ => rfl
 match k, hk with
 | 0, _ =>
  have hb : bitM mask ([1, 2, 4, 8].getD 0 0) = decide (kAnd mask 1 ≠ 0) := rfl
  have hbd : ([1, 2, 4, 8] : List Int).getD 0 0 = 1 := rfl
  rw [hb] at hJk hNk
  rw [hbd] at hJk
  generalize hv : kAnd mask 1 = v at *
  by_cases c : v = 0
  ·simp only [push_cast, simprocAttr, ha, hv, c]
   exact ⟨_, _, by omega, .refl _, 1, rfl, by omega, hNk (by omega) (by simp [c]) hj, rfl⟩
  ·simp only [push_cast, simprocAttr, ha, hv, c]
   refine ⟨hy, hJk _ (by omega) (by simp [c]) hj fun h2 hj2 => ?_⟩
   simp only [push_cast, simprocAttr]
   exact ⟨_, _, by omega, .refl _, 1, rfl, by omega, hj2, rfl⟩
 | 1, _ =>
  have hb : bitM mask ([1, 2, 4, 8].getD 1 0) = decide (kAnd mask 2 ≠ 0) := rfl
  have hbd : ([1, 2, 4, 8] : List Int).getD 1 0 = 2 := rfl
  rw [hb] at hJk hNk
  rw [hbd] at hJk
  generalize hv : kAnd mask 2 = v at *
  by_cases c : v = 0
  ·simp only [push_cast, simprocAttr, ha, hv, c]
   exact ⟨_, _, by omega, .refl _, 2, rfl, by omega, hNk (by omega) (by simp [c]) hj, rfl⟩
  ·simp only [push_cast, simprocAttr, ha, hv, c]
   refine ⟨hy, hJk _ (by omega) (by simp [c]) hj fun h2 hj2 => ?_⟩
   simp only [push_cast, simprocAttr]
   exact ⟨_, _, by omega, .refl _, 2, rfl, by omega, hj2, rfl⟩
 | 2, _ =>
  have hb : bitM mask ([1, 2, 4, 8].getD 2 0) = decide (kAnd mask 4 ≠ 0) := rfl
  have hbd : ([1, 2, 4, 8] : List Int).getD 2 0 = 4 := rfl
  rw [hb] at hJk hNk
  rw [hbd] at hJk
  generalize hv : kAnd mask 4 = v at *
  by_cases c : v = 0
  ·simp only [push_cast, simprocAttr, ha, hv, c]
   exact ⟨_, _, by omega, .refl _, 3, rfl, by omega, hNk (by omega) (by simp [c]) hj, rfl⟩
  ·simp only [push_cast, simprocAttr, ha, hv, c]
   refine ⟨hy, hJk _ (by omega) (by simp [c]) hj fun h2 hj2 => ?_⟩
   simp only [push_cast, simprocAttr]
   exact ⟨_, _, by omega, .refl _, 3, rfl, by omega, hj2, rfl⟩
 | 3, _ =>
  have hb : bitM mask ([1, 2, 4, 8].getD 3 0) = decide (kAnd mask 8 ≠ 0) := rfl
  have hbd : ([1, 2, 4, 8] : List Int).getD 3 0 = 8 := rfl
  rw [hb] at hJk hNk
  rw [hbd] at hJk
  generalize hv : kAnd mask 8 = v at *
  by_cases c : v = 0
  ·simp only [push_cast, simprocAttr, ha, hv, c]
   exact ⟨_, _, by omega, .refl _, 4, rfl, by omega, hNk (by omega) (by simp [c]) hj, rfl⟩
  ·simp only [push_cast, simprocAttr, ha, hv, c]
   refine ⟨hy, hJk _ (by omega) (by simp [c]) hj fun h2 hj2 => ?_⟩
   simp only [push_cast, simprocAttr]
   exact ⟨_, _, by omega, .refl _, 4, rfl, by omega, hj2, rfl⟩
 | 4, _ =>
  simp only [push_cast, simprocAttr]
  exact hj
end Go.Ab
end
section
namespace Go.Ab
open Go.Proofs
variable {G : Glo} {h : Heap}
theorem era_upd_none {h : Heap} {b : Nat} {x : Blk} (hb : h b = none) : era (Ab.upd h b x) b = h := by
 funext d
 simp only [era, Ab.upd]
 by_cases e : d = b
 ·rw [if_pos e, e, hb]
 ·rw [if_neg e, if_neg e]
theorem CloneIs_spec (b : IBk) (hw : b.wf) : Spec Tryz.prog G 31 [bkP b] h (Is (bkP b) h) := by
 refine Spec.weak (Clone_spec b hw) ?_
 rintro _ h1 ⟨c, g, vx, rfl, hn, hs, hg, hx⟩
 exact ⟨_, _, ⟨rfl, rfl⟩, exo_le hs hn hg hx⟩
theorem bitsFn_spec (mask : Int) : Spec Tryz.prog G 32 [.int .i64 mask] h (Is (.fn 65 [] [.cp [.int .i64 mask] 0]) h) := by
 refine Spec.is C32ok rfl ?_
 simp only [push_cast, simprocAttr]
noncomputable def roundJ (mask : Int) (b : IBk) (k : Nat) : IBk := roundK mask b ([1, 2, 4, 8].take k)
theorem roundJ_succ (mask : Int) (b : IBk) (k : Nat) (hk : k < 4) : roundJ mask b (k + 1) = if bitM mask ([1, 2, 4, 8].getD k 0) then passN ([1, 2, 4, 8].getD k 0) (roundJ mask b k) else roundJ mask b k := by
 match k, hk with
 | 0, _ => rfl
 | 1, _ => rfl
 | 2, _ => rfl
 | 3, _ => rfl
theorem Round_spec (b : IBk) (mask : Int) (hw : b.wf) (hc : b.check = 0) : Spec Tryz.prog G 10 [bkP b, .int .i64 mask] h (Is (.tup [bkP (roundN mask b), .int .i64 0]) h) := by
 refine Spec.weak (Q := fun r h' => Sub h h' ∧ r = .tup [bkP (roundN mask b), .int .i64 0]) ?_ ?_
 ·refine Spec.walkR C10ok rfl ?_
  simp only [push_cast, simprocAttr]
  intro b4 hb4 b5 hb5
  refine (Check_spec b hw).to ?_
  rw [hc]
  simp only [push_cast, simprocAttr]
  refine (CloneIs_spec b hw).to ?_
  simp only [push_cast, simprocAttr]
  intro b7 hb7
  refine (bitsFn_spec mask).to ?_
  simp only [push_cast, simprocAttr]
  refine rfV_fn ⟨_, C65ok.hf, rfl, rfl⟩ ?_
  intro l r e hl hr1 hr2 hy
  obtain ⟨n1, n2, n3, hl0⟩ := fresh3 hl
  obtain ⟨m1, m2, hb70⟩ := fresh2 hb7
  obtain ⟨p1, hb50⟩ := fresh1 hb5
  refine (bits_each (mask := mask) hy (fun k H => H = Ab.upd (Ab.upd (Ab.upd (Ab.upd h b4 ⟨[.nilp], 0⟩) b5 ⟨[.int .i64 0], 0⟩) b7 ⟨[bkP (roundJ mask b k)], 0⟩) l (lpB r)) ?_ ?_ ?_).mono ?_
  ·rintro k _ Q hk hm rfl hQ
   have hkp := roundK_kps mask ([1, 2, 4, 8].take k) hc
   have hj := roundJ_succ mask b k hk
   rw [hm, if_pos rfl] at hj
   change Kps (roundJ mask b k) b at hkp
   have gl := upd_same (Ab.upd (Ab.upd (Ab.upd h b4 ⟨[.nilp], 0⟩) b5 ⟨[.int .i64 0], 0⟩) b7 ⟨[bkP (roundJ mask b k)], 0⟩) l (lpB r)
   refine ⟨rfl, rfl, gl, ?_⟩
   simp only [List.zip_cons_cons, List.zip_nil_right, List.reverse_cons, List.reverse_nil, List.nil_append, List.cons_append]
   have g7 : Ab.upd (Ab.upd (Ab.upd (Ab.upd h b4 ⟨[.nilp], 0⟩) b5 ⟨[.int .i64 0], 0⟩) b7 ⟨[bkP (roundJ mask b k)], 0⟩) l (lpB (lpBusy r)) b7 = some ⟨[bkP (roundJ mask b k)], 0⟩ := by rw [upd_ne (Ne.symm n1)]; exact upd_same _ _ _
   generalize hB : roundJ mask b k = b1 at *
   simp only [push_cast, simprocAttr, g7, gl]
   refine (pone_spec (G := G) _ b1 (hkp.nol.wf hw) hkp.check).to ?_
   have g7' : ∀ X, Ab.upd (Ab.upd (Ab.upd (Ab.upd (Ab.upd h b4 ⟨[.nilp], 0⟩) b5 ⟨[.int .i64 0], 0⟩) b7 ⟨[bkP b1], 0⟩) l (lpB (lpBusy r))) b7 X l = some (lpB (lpBusy r)) := fun X => by rw [upd_ne n1]; exact upd_same _ _ _
   simp only [push_cast, simprocAttr, g7, g7']
   refine hQ _ ?_
   rw [hj, upd_comm (b := l) (c := b7) n1, upd_upd, upd_upd]
  ·rintro k _ hk hm rfl
   rw [roundJ_succ mask b k hk, hm, if_neg (by simp)]
  ·rfl
  ·rintro r2 _ ⟨rfl, rfl⟩
   refine .inl ⟨upd_same _ _ _, ?_⟩
   rw [era_upd_none (show (Ab.upd (Ab.upd (Ab.upd h b4 ⟨[.nilp], 0⟩) b5 ⟨[.int .i64 0], 0⟩) b7 ⟨[bkP (roundJ mask b 4)], 0⟩) l = none by rw [upd_ne n1, upd_ne n2, upd_ne n3]; exact hl0)]
   have k4 : ∀ X, Ab.upd (Ab.upd (Ab.upd h b4 ⟨[.nilp], 0⟩) b5 ⟨[.int .i64 0], 0⟩) b7 X b4 = some ⟨[.nilp], 0⟩ := fun X => by rw [upd_ne (Ne.symm m2), upd_ne (Ne.symm p1)]; exact upd_same _ _ _
   simp only [push_cast, simprocAttr, upd_at, k4, p1, m1, m2, Ne.symm p1, Ne.symm m1, Ne.symm m2]
   exact ⟨sub_upd hb50 (sub_upd hb4 (sub_upd hb70 (sub_upd hb50 (sub_upd hb4 (.refl _))))), rfl⟩
 ·rintro _ h' ⟨hs, rfl⟩
  exact ⟨_, _, ⟨rfl, rfl⟩, le_sub hs (Le.refl _ _)⟩
end Go.Ab
end
section
namespace Go.Ab
open Go.Proofs
variable {G : Glo} {h : Heap}
theorem eqP_spec (a b : List (BitVec 32)) (hl : a.length ≤ 1000000000000) : Spec Tryz.prog G 72 [.ro (wds a) a.length, .ro (wds b) b.length] h (Is (.bool (decide (a = b))) h) := by
 refine Spec.is C72ok rfl ?_
 by_cases h1 : a.length = b.length
 ·have h1' : (a.length : Int) = b.length := by omega
  simp (disch := omega) only [push_cast, simprocAttr, wrap_i64, toNat_ofInt64, Nat.min_eq_left, Int.toNat_of_nonneg, h1]
  refine lpc.rel [0, 1, 12, 13] (fun m ρ h' => ∃ k : Nat, m = a.length - k ∧ k ≤ a.length ∧ h = h' ∧ (∀ i, i < k → a.getD i 0#32 = b.getD i 0#32) ∧
   ρ = [(0, .ro (wds a) b.length), (1, .ro (wds b) b.length), (12, .int .i64 (b.length : Int)), (13, .int .i64 (k : Int))]) ⟨_, 0, rfl, by omega, rfl, by intro i hi; omega, rfl⟩ ?_
  rintro m _ _ ⟨k, rfl, hk, rfl, hall, rfl⟩
  by_cases hk2 : k < a.length
  ·have hk3 : k < b.length := by omega
   simp (disch := omega) only [push_cast, simprocAttr, wrap_i64, toNat_ofInt64, Nat.min_eq_left, Int.toNat_of_nonneg, hk2, hk3]
   refine ⟨fun hv => ?_, fun hv => ?_⟩
   ·rw [decide_eq_false (fun e => by rw [e] at hv; simp at hv)]
   ·refine ⟨_, _, by omega, .refl _, k + 1, rfl, by omega, rfl, fun i hi => ?_, rfl⟩
    by_cases hik : i = k
    ·subst hik; first | exact hv | simpa using hv
    ·exact hall i (by omega)
  ·obtain rfl : k = a.length := by omega
   have hk3 : ¬ a.length < b.length := by omega
   simp only [push_cast, simprocAttr, hk2, hk3]
   rw [decide_eq_true (getD_ext 0#32 h1 hall)]
 ·have h2 : ¬ (a.length : Int) = b.length := by omega
  simp only [push_cast, simprocAttr, h1, h2]
  rw [decide_eq_false (fun e => h1 (by rw [e]))]
theorem eqO_spec (a b : List IOp) (hl : a.length ≤ 1000000000000) : Spec Tryz.prog G 73 [ops a, ops b] h (Is (.bool (decide (a = b))) h) := by
 refine Spec.is C73ok rfl ?_
 by_cases h1 : a.length = b.length
 ·have h1' : (a.length : Int) = b.length := by omega
  simp (disch := omega) only [push_cast, simprocAttr, wrap_i64, toNat_ofInt64, Nat.min_eq_left, Int.toNat_of_nonneg, h1]
  refine lpc.rel [0, 1, 12, 13] (fun m ρ h' => ∃ k : Nat, m = a.length - k ∧ k ≤ a.length ∧ h = h' ∧ (∀ i, i < k → a.getD i IOp.zero = b.getD i IOp.zero) ∧
   ρ = [(0, ops a), (1, ops b), (12, .int .i64 (b.length : Int)), (13, .int .i64 (k : Int))]) ⟨_, 0, rfl, by omega, rfl, by intro i hi; omega, rfl⟩ ?_
  rintro m _ _ ⟨k, rfl, hk, rfl, hall, rfl⟩
  by_cases hk2 : k < a.length
  ·have hk3 : k < b.length := by omega
   simp (disch := omega) only [push_cast, simprocAttr, wrap_i64, toNat_ofInt64, Nat.min_eq_left, Int.toNat_of_nonneg, hk2, hk3, op_eqd]
   refine ⟨fun hv => ?_, fun hv => ?_⟩
   ·rw [decide_eq_false (fun e => by rw [e] at hv; simp at hv)]
   ·refine ⟨_, _, by omega, .refl _, k + 1, rfl, by omega, rfl, fun i hi => ?_, rfl⟩
    by_cases hik : i = k
    ·subst hik; first | exact hv | simpa using hv
    ·exact hall i (by omega)
  ·obtain rfl : k = a.length := by omega
   have hk3 : ¬ a.length < b.length := by omega
   simp only [push_cast, simprocAttr, hk2, hk3]
   rw [decide_eq_true (getD_ext IOp.zero h1 hall)]
 ·have h2 : ¬ (a.length : Int) = b.length := by omega
  simp only [push_cast, simprocAttr, h1, h2]
  rw [decide_eq_false (fun e => h1 (by rw [e]))]
theorem eqV_spec (a b : List IVl) (hl : a.length ≤ 1000000000000) : Spec Tryz.prog G 71 [vls a, vls b] h (Is (.bool (decide (a = b))) h) := by
 refine Spec.is C71ok rfl ?_
 by_cases h1 : a.length = b.length
 ·have h1' : (a.length : Int) = b.length := by omega
  simp (disch := omega) only [push_cast, simprocAttr, wrap_i64, toNat_ofInt64, Nat.min_eq_left, Int.toNat_of_nonneg, h1]
  refine lpc.rel [0, 1, 12, 13] (fun m ρ h' => ∃ k : Nat, m = a.length - k ∧ k ≤ a.length ∧ h = h' ∧ (∀ i, i < k → a.getD i IVl.zero = b.getD i IVl.zero) ∧
   ρ = [(0, vls a), (1, vls b), (12, .int .i64 (b.length : Int)), (13, .int .i64 (k : Int))]) ⟨_, 0, rfl, by omega, rfl, by intro i hi; omega, rfl⟩ ?_
  rintro m _ _ ⟨k, rfl, hk, rfl, hall, rfl⟩
  by_cases hk2 : k < a.length
  ·have hk3 : k < b.length := by omega
   simp (disch := omega) only [push_cast, simprocAttr, wrap_i64, toNat_ofInt64, Nat.min_eq_left, Int.toNat_of_nonneg, hk2, hk3, vl_eqd]
   refine ⟨fun hv => ?_, fun hv => ?_⟩
   ·rw [decide_eq_false (fun e => by rw [e] at hv; simp at hv)]
   ·refine ⟨_, _, by omega, .refl _, k + 1, rfl, by omega, rfl, fun i hi => ?_, rfl⟩
    by_cases hik : i = k
    ·subst hik; first | exact hv | simpa using hv
    ·exact hall i (by omega)
  ·obtain rfl : k = a.length := by omega
   have hk3 : ¬ a.length < b.length := by omega
   simp only [push_cast, simprocAttr, hk2, hk3]
   rw [decide_eq_true (getD_ext IVl.zero h1 hall)]
 ·have h2 : ¬ (a.length : Int) = b.length := by omega
  simp only [push_cast, simprocAttr, h1, h2]
  rw [decide_eq_false (fun e => h1 (by rw [e]))]
end Go.Ab
end
section
namespace Go.Ab
open Go.Proofs
variable {G : Glo} {h : Heap}
theorem ex_dec (x y : IEx) : decide (x = y) = (decide (x.done = y.done) && (decide (x.pc = y.pc) && (decide (x.to = y.to) && (decide (x.why = y.why) && decide (x.map = y.map))))) := by
 obtain ⟨a, b, c, d, e⟩ := x
 obtain ⟨a', b', c', d', e'⟩ := y
 rw [Bool.eq_iff_iff]; simp
theorem same1_spec (x y : IEx) (hl : x.map.length ≤ 1000000000000) : Spec Tryz.prog G 70 [.agg x.cells, .agg y.cells] h (Is (.bool (decide (x = y))) h) := by
 have kV := eqV_spec (G := G) (h := h) x.map y.map hl
 rw [ex_dec]
 have e2 : ((x.pc.toNat : Int) == (y.pc.toNat : Int)) = decide (x.pc = y.pc) := by
  rw [Bool.eq_iff_iff, beq_iff_eq, decide_eq_true_eq]
  exact ⟨fun e => BitVec.eq_of_toNat_eq (by omega), fun e => by rw [e]⟩
 have e1 : (x.done == y.done) = decide (x.done = y.done) := rfl
 have e3 : (x.to == y.to) = decide (x.to = y.to) := rfl
 have e4 : (x.why == y.why) = decide (x.why = y.why) := rfl
 generalize decide (x.done = y.done) = B1 at *
 generalize decide (x.pc = y.pc) = B2 at *
 generalize decide (x.to = y.to) = B3 at *
 generalize decide (x.why = y.why) = B4 at *
 refine Spec.is C70ok rfl ?_
 cases B1 with
 | false => simp only [push_cast, simprocAttr, e1]; try rfl
 | true => cases B2 with
  | false => simp only [push_cast, simprocAttr, e1, e2]; try rfl
  | true => cases B3 with
   | false => simp only [push_cast, simprocAttr, e1, e2, e3]; try rfl
   | true => cases B4 with
    | false => simp only [push_cast, simprocAttr, e1, e2, e3, e4]; try rfl
    | true =>
     simp only [push_cast, simprocAttr, e1, e2, e3, e4]
     refine kV.to ?_
     simp only [push_cast, simprocAttr]
     try rfl
theorem eqX_spec (a b : List IEx) (hl : a.length ≤ 1000000000000) (hm : ∀ e ∈ a, e.map.length ≤ 1000000000000) : Spec Tryz.prog G 74 [exs a, exs b, .fn 70 [] []] h (Is (.bool (decide (a = b))) h) := by
 refine Spec.is C74ok rfl ?_
 by_cases h1 : a.length = b.length
 ·simp (disch := omega) only [push_cast, simprocAttr, wrap_i64, toNat_ofInt64, Nat.min_eq_left, Int.toNat_of_nonneg, h1]
  refine lpc.rel [1, 2, 15, 16, 17] (fun m ρ h' => ∃ k : Nat, m = a.length - k ∧ k ≤ a.length ∧ h = h' ∧ (∀ i, i < k → a.getD i IEx.zero = b.getD i IEx.zero) ∧
   ρ = [(1, exs b), (2, .fn 70 [] []), (15, exs a), (16, .int .i64 (b.length : Int)), (17, .int .i64 (k : Int))]) ⟨_, 0, rfl, by omega, rfl, by intro i hi; omega, rfl⟩ ?_
  rintro m _ _ ⟨k, rfl, hk, rfl, hall, rfl⟩
  by_cases hk2 : k < a.length
  ·have hk3 : k < b.length := by omega
   have hml : (a.getD k IEx.zero).map.length ≤ 1000000000000 := by rw [List.getD_eq_getElem?_getD, List.getElem?_eq_getElem hk2]; exact hm _ (by simp)
   generalize hx : a.getD k IEx.zero = x at *
   generalize hy : b.getD k IEx.zero = y at *
   simp (disch := omega) only [push_cast, simprocAttr, wrap_i64, toNat_ofInt64, Nat.min_eq_left, Int.toNat_of_nonneg, hk2, hk3, hx, hy]
   intro c8 hc8
   rw [era_none hc8]
   intro c9 hc9
   rw [era_none hc9]
   refine ⟨⟨_, C70ok.hf, rfl, rfl⟩, (same1_spec x y hml).to ?_⟩
   by_cases hv : x = y
   ·rw [decide_eq_true hv]
    simp (disch := omega) only [push_cast, simprocAttr, wrap_i64, toNat_ofInt64, Nat.min_eq_left, Int.toNat_of_nonneg]
    refine ⟨_, _, by omega, .refl _, k + 1, rfl, by omega, rfl, fun i hi => ?_, rfl⟩
    by_cases hik : i = k
    ·subst hik; rw [hx, hy]; exact hv
    ·exact hall i (by omega)
   ·rw [decide_eq_false hv]
    simp only [push_cast, simprocAttr]
    rw [decide_eq_false (fun e => hv (by rw [← hx, ← hy, e]))]
  ·obtain rfl : k = a.length := by omega
   have hk3 : ¬ a.length < b.length := by omega
   simp only [push_cast, simprocAttr, hk2, hk3]
   rw [decide_eq_true (getD_ext IEx.zero h1 hall)]
 ·have h2 : ¬ (a.length : Int) = b.length := by omega
  simp only [push_cast, simprocAttr, h1, h2]
  rw [decide_eq_false (fun e => h1 (by rw [e]))]
theorem bk_dec (a b : IBk) : decide (a = b) = (decide (a.last = b.last) && (decide (a.pcs = b.pcs) && (decide (a.ops = b.ops) && decide (a.exits = b.exits)))) := by
 obtain ⟨a1, a2, a3, a4⟩ := a
 obtain ⟨b1, b2, b3, b4⟩ := b
 rw [Bool.eq_iff_iff]; simp; constructor <;> (rintro ⟨x, y, z, w⟩; simp_all)
theorem same_spec33 (a b : IBk) (hw : a.wf) : Spec Tryz.prog G 34 [bkP a, bkP b] h (Is (.bool (decide (a = b))) h) := by
 obtain ⟨hs1, hs2, hs3⟩ := hw.hs
 have kP := eqP_spec (G := G) (h := h) a.pcs b.pcs hw.hq
 have kO := eqO_spec (G := G) (h := h) a.ops b.ops hs1
 have kX := eqX_spec (G := G) (h := h) a.exits b.exits hs2 hs3
 rw [bk_dec]
 have e1 : (a.last == b.last) = decide (a.last = b.last) := rfl
 generalize decide (a.last = b.last) = B1 at *
 refine Spec.is C34ok rfl ?_
 cases B1 with
 | false => simp only [push_cast, simprocAttr, e1]; try rfl
 | true =>
  simp only [push_cast, simprocAttr, e1]
  refine kP.to ?_
  cases decide (a.pcs = b.pcs) with
  | false => simp only [push_cast, simprocAttr]; try rfl
  | true =>
   simp only [push_cast, simprocAttr]
   refine kO.to ?_
   cases decide (a.ops = b.ops) with
   | false => simp only [push_cast, simprocAttr]; try rfl
   | true =>
    simp only [push_cast, simprocAttr]
    refine kX.to ?_
    simp only [push_cast, simprocAttr]
    try rfl
end Go.Ab
end
section
namespace Go.Ab
open Go.Proofs
variable {G : Glo} {h : Heap}
theorem Run_spec (b : IBk) (mask : Int) (hw : b.wf) (hc : b.check = 0) : Spec Tryz.prog G 11 [bkP b, .int .i64 mask] h (Is (.tup [bkP (runP mask 8 b), .int .i64 0]) h) := by
 refine Spec.is C11ok rfl ?_
 simp only [push_cast, simprocAttr]
 refine lpc.rel [1, 6, 10] (fun m ρ h' => ∃ (k : Nat) (b1 : IBk), m = 8 - k ∧ k ≤ 8 ∧ h = h' ∧ Kps b1 b ∧ runP mask 8 b = runP mask (8 - k) b1 ∧
  ρ = [(1, .int .i64 mask), (6, bkP b1), (10, .int .i64 (k : Int))]) ⟨_, 0, b, rfl, by omega, rfl, .refl hc, rfl, rfl⟩ ?_
 rintro m _ _ ⟨k, b1, rfl, hk, rfl, hp, hr, rfl⟩
 by_cases hk2 : k < 8
 ·have hw1 := hp.nol.wf hw
  have hR := Round_spec (G := G) (h := h) b1 mask hw1 hp.check
  have hS := same_spec33 (G := G) (h := h) (roundN mask b1) b1 ((round_kps mask hp.check).nol.wf hw1)
  have hkp := (round_kps mask hp.check).trans hp
  have hstep : runP mask (8 - k) b1 = if roundN mask b1 = b1 then roundN mask b1 else runP mask (8 - (k + 1)) (roundN mask b1) := by rw [show 8 - k = (8 - (k + 1)) + 1 by omega, runP]
  rw [hstep] at hr
  clear hstep
  generalize runP mask 8 b = R at *
  generalize roundN mask b1 = b2 at *
  have hk3 : (k : Int) < 8 := by omega
  simp (disch := omega) only [push_cast, simprocAttr, wrap_i64, toNat_ofInt64, Nat.min_eq_left, Int.toNat_of_nonneg, hk2, hk3]
  refine hR.to ?_
  simp only [push_cast, simprocAttr]
  refine hS.to ?_
  by_cases he : b2 = b1
  ·rw [if_pos he] at hr
   rw [decide_eq_true he]
   simp only [push_cast, simprocAttr]
   rw [hr]
  ·rw [if_neg he] at hr
   rw [decide_eq_false he]
   simp (disch := omega) only [push_cast, simprocAttr, wrap_i64, toNat_ofInt64, Nat.min_eq_left, Int.toNat_of_nonneg]
   exact ⟨_, _, by omega, .refl _, k + 1, b2, rfl, by omega, rfl, hkp, hr, rfl⟩
 ·obtain rfl : k = 8 := by omega
  simp only [push_cast, simprocAttr]
  rw [hr]
  rfl
theorem Tune_spec (b : IBk) (hw : b.wf) (hc : b.check = 0) : Spec Tryz.prog G 26 [bkP b] h (Is (.tup [bkP (runP 15 8 (runP 15 8 b).fw), .int .i64 0]) h) := by
 have h1 := run_kps 15 8 hc
 have h2 := (fw_kps h1.check).trans h1
 refine Spec.is C26ok rfl ?_
 simp only [push_cast, simprocAttr]
 refine (Run_spec b 15 hw hc).to ?_
 simp only [push_cast, simprocAttr]
 refine (Do_spec _ (h1.nol.wf hw) h1.check).to ?_
 simp only [push_cast, simprocAttr]
 refine (Run_spec _ 15 (h2.nol.wf hw) h2.check).to ?_
 simp only [push_cast, simprocAttr]
 try rfl
end Go.Ab
end
section
namespace Go.Ab
open Go.Proofs
variable {G : Glo} {h : Heap}
end Go.Ab
end
section
namespace Go.Ab
open Go.Proofs
variable {G : Glo} {h : Heap}
structure IWd where
 regs : List (BitVec 32)
 size : Int
 b : List (BitVec 8)
 w : BitVec 16
def IWd.cells (w : IWd) : List AV := wds w.regs ++ [.int .i64 w.size, byt w.b, .int .u16 w.w.toNat]
end Go.Ab
end
section
namespace Go.Ab
open Go.Proofs
variable {G : Glo} {h : Heap}
@[push_cast] theorem abin_and_u16 (a b : Int) : abin .and (.int .u16 a) (.int .u16 b) = some (.int .u16 ((BitVec.ofInt 16 a &&& BitVec.ofInt 16 b).toNat : Int)) := by
 show (if IntKind.u16 = IntKind.u16 then some (AV.int .u16 (IntKind.u16.wrap ((BitVec.ofInt 16 a &&& BitVec.ofInt 16 b).toNat : Int))) else none) = _
 rw [if_pos rfl, wr_u16, ofInt_toNat, BitVec.setWidth_eq]
def MemTo (h : Heap) (M : IRam) (r : AV) (h' : Heap) : Prop := ∃ l : Pl, r = .ptr l.p 0 ∧ RamAt h' l M ∧ (∀ c, l.has c → h c = none) ∧ ∀ c, ¬ l.has c → h' c = h c
end Go.Ab
end
section
namespace Go.Ab
open Go.Proofs
variable {G : Glo} {h : Heap}
end Go.Ab
end
section
namespace Go.Ab
open Go.Proofs
variable {G : Glo} {h : Heap}
def del (h : Heap) (b : Nat) : Heap := fun c => if c = b then none else h c
theorem del_at {h : Heap} {b c : Nat} : del h b c = if c = b then none else h c := rfl
theorem del_ne {h : Heap} {b c : Nat} (hc : c ≠ b) : del h b c = h c := if_neg hc
theorem upd_del {h : Heap} {b : Nat} {x : Blk} (hb : h b = some x) : h = upd (del h b) b x := by
 funext c
 simp only [upd_at, del_at]
 split
 ·rename_i e; rw [e, hb]
 ·rfl
theorem Le.own {h : Heap} {b n cap : Nat} {cells : List AV} {sp : Nat} (hb : h b = some ⟨cells, sp⟩) (h0 : n = 0 → cells = []) : Le (.sl b 0 n cap) h (.ro cells n) (del h b) := by
 have := Le.freeze (g := del h b) (b := b) (n := n) (cap := cap) (pre := []) (cells := cells) (sp := sp) (by simp [del_at]) h0
 rw [List.nil_append, ← upd_del hb] at this
 exact this
theorem Le.less {r : AV} {h g : Heap} (hs : Sub g h) : Le r h r g := by
 intro w v hw hr
 obtain ⟨l1, l2⟩ := hrep_less hw hs
 exact ⟨l1, hr.keep ⟨Nat.le_refl _, fun c _ hn => ⟨fun hd => hn fun e => hd (hs.none e), rfl⟩, fun _ h => h⟩, fun c hc => hs.none hc⟩
def IRam.cells (M : IRam) : List AV := [byt M.b, .ro (bos M.w) M.w.length, .ro (qws M.g) M.g.length]
abbrev ramV (M : IRam) : AV := .agg M.cells
end Go.Ab
end
section
namespace Go.Ab
open Go.Proofs
variable {G : Glo} {h : Heap}
end Go.Ab
end
section
namespace Go.Ab
open Go.Proofs
variable {G : Glo} {h : Heap}
structure Bag (h H : Heap) (l : List (Nat × Blk)) : Prop where
 get : ∀ p ∈ l, H p.1 = some p.2
 new : ∀ p ∈ l, h p.1 = none
 nd : (l.map (·.1)).Nodup
 sub : Sub h H
theorem Bag.alloc {h H : Heap} {l : List (Nat × Blk)} {b : Nat} (x : Blk) (hB : Bag h H l) (hb : H b = none) : Bag h (upd H b x) ((b, x) :: l) := by
 have hne : ∀ p ∈ l, p.1 ≠ b := fun p hp e => by rw [← e, hB.get p hp] at hb; cases hb
 refine ⟨fun p hp => ?_, fun p hp => ?_, ?_, hB.sub.alloc hb⟩
 ·rcases List.mem_cons.1 hp with rfl | hp
  ·exact upd_same _ _ _
  ·rw [upd_ne (hne p hp)]; exact hB.get p hp
 ·rcases List.mem_cons.1 hp with rfl | hp
  ·exact hB.sub.none hb
  ·exact hB.new p hp
 ·simp only [List.map_cons, List.nodup_cons]
  refine ⟨fun q => ?_, hB.nd⟩
  obtain ⟨p, hp, e⟩ := List.mem_map.1 q
  exact hne p hp e
theorem Bag.app {h H : Heap} {l r : List (Nat × Blk)} {b b' : Nat} {x : Blk} (y : Blk) (hB : Bag h H l) (hp : l.Perm ((b, x) :: r)) (hb : b' = b ∨ H b' = none) : Bag h (upd (era H b) b' y) ((b', y) :: r) := by
 have hnd : (((b, x) :: r).map (·.1)).Nodup := (hp.map _).nodup_iff.1 hB.nd
 simp only [List.map_cons, List.nodup_cons] at hnd
 have hbr : ∀ p ∈ r, p.1 ≠ b := fun p hp e => hnd.1 (e ▸ List.mem_map_of_mem hp)
 have hg : ∀ p ∈ r, H p.1 = some p.2 := fun p q => hB.get p (hp.mem_iff.2 (List.mem_cons_of_mem _ q))
 have hn : ∀ p ∈ r, h p.1 = none := fun p q => hB.new p (hp.mem_iff.2 (List.mem_cons_of_mem _ q))
 have hbn : h b = none := hB.new (b, x) (hp.mem_iff.2 (by simp))
 have hb'n : h b' = none := by
  rcases hb with rfl | q
  ·exact hbn
  ·exact hB.sub.none q
 have hne : ∀ p ∈ r, p.1 ≠ b' := fun p q e => by
  rcases hb with rfl | hb
  ·exact hbr p q e
  ·rw [← e, hg p q] at hb; cases hb
 refine ⟨fun p q => ?_, fun p q => ?_, ?_, fun c z hc => ?_⟩
 ·rcases List.mem_cons.1 q with rfl | q
  ·exact upd_same _ _ _
  ·rw [upd_ne (hne p q), era, if_neg (hbr p q)]; exact hg p q
 ·rcases List.mem_cons.1 q with rfl | q
  ·exact hb'n
  ·exact hn p q
 ·simp only [List.map_cons, List.nodup_cons]
  refine ⟨fun q => ?_, hnd.2⟩
  obtain ⟨p, hp, e⟩ := List.mem_map.1 q
  exact hne p hp e
 ·have h1 : c ≠ b := fun e => by rw [e, hbn] at hc; cases hc
  have h2 : c ≠ b' := fun e => by rw [e, hb'n] at hc; cases hc
  rw [upd_ne h2, era, if_neg h1]
  exact hB.sub c z hc
theorem Bag.set {h H : Heap} {r : List (Nat × Blk)} {b : Nat} {x : Blk} (y : Blk) (hB : Bag h H ((b, x) :: r)) : Bag h (upd H b y) ((b, y) :: r) := by
 have hnd := hB.nd
 simp only [List.map_cons, List.nodup_cons] at hnd
 refine ⟨fun p q => ?_, fun p q => ?_, hB.nd, hB.sub.set (hB.new (b, x) (by simp))⟩
 ·rcases List.mem_cons.1 q with rfl | q
  ·exact upd_same _ _ _
  ·have hpb : p.1 ≠ b := fun e => hnd.1 (by rw [← e]; exact List.mem_map_of_mem q)
   rw [upd_ne hpb]; exact hB.get p (List.mem_cons_of_mem _ q)
 ·rcases List.mem_cons.1 q with rfl | q
  ·exact hB.new (b, x) (by simp)
  ·exact hB.new p (List.mem_cons_of_mem _ q)
theorem Bag.at {h H : Heap} {l : List (Nat × Blk)} {b : Nat} {x : Blk} (hB : Bag h H l) (hm : (b, x) ∈ l) : H b = some x := hB.get (b, x) hm
theorem Le.aggp {h : Heap} {b n cap i : Nat} {pre cells : List AV} {L : List AV} {sp : Nat} (hi : L[i]? = some (.sl b pre.length n cap)) (hb : h b = some ⟨pre ++ cells, sp⟩) (h0 : n = 0 → cells = []) : Le (.agg L) h (.agg (L.set i (.ro cells n))) (del h b) := by
 have hd : del h b b = none := by simp [del_at]
 rw [upd_del hb]
 have e2 : del (upd (del h b) b ⟨pre ++ cells, sp⟩) b = del h b := by rw [← upd_del hb]
 rw [e2]
 intro w v hw hr
 obtain ⟨cs, rfl, hl, h1, hr1⟩ := rep_agg hr
 have hsub : Sub (del h b) (upd (del h b) b ⟨pre ++ cells, sp⟩) := (Sub.refl _).alloc hd
 obtain ⟨l1, _⟩ := hrep_less hw hsub
 have hk : Keeps w (upd (del h b) b ⟨pre ++ cells, sp⟩).dom w (del h b).dom := ⟨Nat.le_refl _, fun c _ hn => ⟨fun hd => hn fun e => hd (hsub.none e), rfl⟩, fun _ h => h⟩
 refine ⟨l1, .agg _ _ (by simpa using hl) h1 fun j u c e1 e2 => ?_, fun c hc => hsub.none hc⟩
 rw [List.getElem?_set] at e1
 split at e1
 ·rename_i hij
  subst hij
  split at e1
  ·cases e1
   exact (Le.freeze hd h0 w c hw (hr1 i _ c hi e2)).2.1
  ·cases e1
 ·exact (hr1 j u c e1 e2).keep hk
section
variable {M : IRam}
def OwnR (h : Heap) (M : IRam) (r : AV) (F : Heap) : Prop := ∃ bw pw cw sw bg pg cg sg, r = .agg [byt M.b, .sl bw (List.length pw) M.w.length cw, .sl bg (List.length pg) M.g.length cg] ∧ F bw = some ⟨pw ++ bos M.w, sw⟩ ∧ F bg = some ⟨pg ++ qws M.g, sg⟩ ∧ bw ≠ bg ∧
 (h bw = none ∧ h bg = none) ∧ Sub h F
theorem OwnR.le {r : AV} {F : Heap} (ho : OwnR h M r F) : Le r F (ramV M) h := by
 obtain ⟨bw, pw, cw, sw, bg, pg, cg, sg, rfl, h1, h2, hne, ⟨h4, h5⟩, h6⟩ := ho
 have e1 := Le.aggp (i := 1) (L := [byt M.b, .sl bw (List.length pw) M.w.length cw, .sl bg (List.length pg) M.g.length cg]) rfl h1 (fun e => by simp [bos, List.length_eq_zero_iff.1 e])
 have e2 := Le.aggp (h := del F bw) (i := 2) (L := [byt M.b, .ro (bos M.w) M.w.length, .sl bg (List.length pg) M.g.length cg]) rfl (sp := sg) (by rw [del_ne (Ne.symm hne)]; exact h2) (fun e => by simp [qws, List.length_eq_zero_iff.1 e])
 refine le_trans e1 (le_trans e2 (Le.less fun c x hc => ?_))
 rw [del_ne (fun e => by rw [e, h5] at hc; cases hc), del_ne (fun e => by rw [e, h4] at hc; cases hc)]
 exact h6 c x hc
structure SI (h : Heap) (M : IRam) (addr w : BitVec 32) (n : Nat) (B : List (BitVec 8)) (c8 b19 bw cw sw b23 bg cg sg c10 : Nat) (pw pg : List AV) (pre : List Nat) (ρ : Env) (H : Heap) : Prop where
 k1 : lk ρ 1 = .int .u32 addr.toNat
 k8 : lk ρ 8 = .ptr c8 0
 k12 : lk ρ 12 = .cp M.cells 0
 k13 : lk ρ 13 = byt M.b
 k14 : lk ρ 14 = .int .u32 addr.toNat
 k15 : lk ρ 15 = .int .u32 w.toNat
 k16 : lk ρ 16 = .int .i64 n
 k4 : lk ρ 4 = .cp M.cells 0
 k2 : lk ρ 2 = .int .i64 n
 k3 : lk ρ 3 = .int .u32 w.toNat
 k20 : lk ρ 20 = .cp M.cells 1
 k21 : lk ρ 21 = .ro (bos M.w) M.w.length
 k24 : lk ρ 24 = .cp M.cells 2
 k25 : lk ρ 25 = .ro (qws M.g) M.g.length
 f5 : 5 ∈ pre → lk ρ 17 = byt (leB w n)
 f6 : 6 ∈ pre → lk ρ 18 = byt B
 f7 : 7 ∈ pre → lk ρ 19 = .sl b19 0 0 0
 f10 : 10 ∈ pre → lk ρ 22 = .sl bw (List.length pw) M.w.length cw
 f11 : 11 ∈ pre → lk ρ 23 = .sl b23 0 0 0
 f14 : 14 ∈ pre → lk ρ 26 = .sl bg (List.length pg) M.g.length cg
 f15 : 15 ∈ pre → lk ρ 27 = .agg [byt B, .sl bw (List.length pw) M.w.length cw, .sl bg (List.length pg) M.g.length cg]
 f16 : 16 ∈ pre → lk ρ 10 = .ptr c10 0
 d10 : 10 ∈ pre → 7 ∈ pre
 d14 : 14 ∈ pre → 11 ∈ pre
 d15 : 15 ∈ pre → 6 ∈ pre ∧ 10 ∈ pre ∧ 14 ∈ pre
 d17 : 17 ∈ pre → 15 ∈ pre ∧ 16 ∈ pre
 bag : Bag h H ((if 10 ∈ pre then [(bw, ⟨pw ++ bos M.w, sw⟩)] else if 7 ∈ pre then [(b19, ⟨[], 0⟩)] else []) ++ ((if 14 ∈ pre then [(bg, ⟨pg ++ qws M.g, sg⟩)] else if 11 ∈ pre then [(b23, ⟨[], 0⟩)] else []) ++
  ((if 17 ∈ pre then [(c10, ⟨[byt B, .sl bw (List.length pw) M.w.length cw, .sl bg (List.length pg) M.g.length cg], 0⟩)] else if 16 ∈ pre then [(c10, ⟨[.nils, .nils, .nils], 0⟩)] else []) ++ [(c8, ⟨[.nils, .nils, .nils], 0⟩)])))
end
end Go.Ab
end
section
namespace Go.Ab
open Go.Proofs
variable {G : Glo} {h : Heap}
end Go.Ab
end
section
namespace Go.Ab
open Go.Proofs
variable {G : Glo} {h : Heap}
def VV (H : Heap) (vv : AV) (vals : List (BitVec 32)) : Prop := ∃ c pre cap sp, vv = .sl c (List.length pre) vals.length cap ∧ H c = some ⟨pre ++ wds vals, sp⟩
section
variable {regs : List (BitVec 32)} {pc : BitVec 32} {done why exit : Int} {T : List AV}
end
end Go.Ab
end
section
namespace Go.Ab
open Go.Proofs
variable {G : Glo} {h : Heap}
def RowV (g : Heap) (vv : AV) (vals : List (BitVec 32)) (H : Heap) : Prop := ∃ c pre cap sp, vv = .sl c (List.length pre) vals.length cap ∧ g c = none ∧ cap ≤ vals.length + sp ∧ H = upd g c ⟨pre ++ wds vals, sp⟩
theorem RowV.vv {g H : Heap} {vv : AV} {vals : List (BitVec 32)} (hr : RowV g vv vals H) : VV H vv vals := by
 obtain ⟨c, pre, cap, sp, h1, h2, h3, rfl⟩ := hr
 exact ⟨c, pre, cap, sp, h1, upd_same _ _ _⟩
theorem RowV.app {g H : Heap} {vv : AV} {vals : List (BitVec 32)} (hr : RowV g vv vals H) (w : BitVec 32) (hn : vals.length ≤ 1000) {Q : AV → Heap → Prop} (hq : ∀ v' H', RowV g v' (vals ++ [w]) H' → Q v' H') : appQ 1 4 1 [.int .u32 w.toNat] vv H Q := by
 obtain ⟨c, pre, cap, sp, rfl, h2, h3, rfl⟩ := hr
 have ho : Own 1 g (.sl c pre.length vals.length cap) (wds vals) vals.length (upd g c ⟨pre ++ wds vals, sp⟩) := .row c vals.length cap pre (wds vals) sp h2 (by simp [wds]) (by omega)
 refine ho.app (m := 1) rfl (by omega) (by omega) fun v' h' ho2 => ?_
 have hX : wds vals ++ [AV.int .u32 w.toNat] = wds (vals ++ [w]) := by simp [wds]
 have hN : vals.length + 1 = (vals ++ [w]).length := by simp
 rw [hX, hN] at ho2
 generalize (vals ++ [w]) = U at ho2 hq hN
 generalize hU : wds U = X at ho2
 generalize hL : U.length = N at ho2
 cases ho2 with
 | nil => omega
 | row c' _ cap' pre' cells sp' hb hl hc => exact hq _ _ ⟨c', pre', cap', sp', by rw [hL], hb, by rw [hL]; simpa using hc, by rw [hU]⟩
theorem RowV.get {g H : Heap} {vv : AV} {vals : List (BitVec 32)} (hr : RowV g vv vals H) {b : Nat} {x : Blk} (hb : g b = some x) : H b = some x := by
 obtain ⟨c, pre, cap, sp, rfl, h2, h3, rfl⟩ := hr
 rw [upd_ne (fun e => by rw [e, h2] at hb; cases hb)]
 exact hb
theorem RowV.set {g H : Heap} {vv : AV} {vals : List (BitVec 32)} (hr : RowV g vv vals H) {b : Nat} {x : Blk} (y : Blk) (hb : g b = some x) : RowV (upd g b y) vv vals (upd H b y) := by
 obtain ⟨c, pre, cap, sp, rfl, h2, h3, rfl⟩ := hr
 have hne : c ≠ b := fun e => by rw [e, hb] at h2; cases h2
 exact ⟨c, pre, cap, sp, rfl, by rw [upd_ne hne]; exact h2, h3, upd_comm hne⟩
theorem RowV.sub {g H : Heap} {vv : AV} {vals : List (BitVec 32)} (hr : RowV g vv vals H) : Sub g H := by
 obtain ⟨c, pre, cap, sp, rfl, h2, h3, rfl⟩ := hr
 exact (Sub.refl g).alloc h2
theorem RowV.alloc {g H : Heap} {vv : AV} {vals : List (BitVec 32)} (hr : RowV g vv vals H) {b : Nat} (y : Blk) (hb : H b = none) : RowV (upd g b y) vv vals (upd H b y) := by
 obtain ⟨c, pre, cap, sp, rfl, h2, h3, rfl⟩ := hr
 have hne : c ≠ b := fun e => by rw [e, upd_same] at hb; cases hb
 exact ⟨c, pre, cap, sp, rfl, by rw [upd_ne hne]; exact h2, h3, upd_comm hne⟩
section
variable {M : IRam} {b : IBk} {regs : List (BitVec 32)}
end
end Go.Ab
end
section
namespace Go.Ab
open Go.Proofs
variable {G : Glo} {h : Heap}
theorem MemTo.sub {M : IRam} {l : Pl} {H : Heap} (hn : ∀ c, l.has c → h c = none) (ho : ∀ c, ¬ l.has c → H c = h c) : Sub h H := by
 intro c x hc
 rw [ho c (fun q => by rw [hn c q] at hc; cases hc)]
 exact hc
end Go.Ab
end
section
namespace Go.Ab
open Go.Proofs
variable {G : Glo} {h : Heap}
section
variable {b : IBk} {w : IWd} {n : Nat} {l : Pl} {M' : IRam} {Ro : List (BitVec 32)} {pc : BitVec 32} {d y x : Int}
end
end Go.Ab
end
section
namespace Go.Ab
open Go.Proofs
variable {G : Glo} {h : Heap}
end Go.Ab
end
section
namespace Go.Ab
open Go.Proofs
variable {G : Glo} {h : Heap}
end Go.Ab
end
section
namespace Go.Ab
open Go.Proofs
variable {G : Glo} {h : Heap}
end Go.Ab
end
section
namespace Go.Ab
open Go.Proofs
variable {G : Glo} {h : Heap}
theorem code_le6 {b : IBk} {k : Nat} (hk : b.opR k = true) : (b.ops.getD k IOp.zero).code ≤ 6 := by
 rw [opR_eq b k rfl] at hk
 generalize b.ops.getD k IOp.zero = o at hk
 (repeat' split at hk) <;> first | omega | cases hk
theorem rnames_spec (to : List Int) (o : IOp) (hR : renOK to o) (h6 : o.code ≤ 6) : Spec Tryz.prog G 77 [.agg o.cells, ints to] h (Is (.agg (ren to o).cells) h) := by
 obtain ⟨hR1, hR2⟩ := hR
 have key : ∀ b2 b4 : Nat, h b2 = none → upd h b2 ⟨o.cells, 0⟩ b4 = none → b4 ≠ b2 ∧ b2 ≠ b4 ∧ h b4 = none := fun b2 b4 h2 h4 => ⟨(upd_none h4).1, Ne.symm (upd_none h4).1, (upd_none h4).2⟩
 by_cases c : o.code = 3 ∨ o.code = 5 ∨ o.code = 6
 ·obtain ⟨⟨a0, a1⟩, b0, b1⟩ := hR1 c
  have e : ren to o = { o with a := to.getD o.a.toNat 0, b := to.getD o.b.toNat 0 } := by unfold ren; rw [if_pos c]
  have qa : o.a.toNat < to.length := by omega
  have qb : o.b.toNat < to.length := by omega
  rw [e]
  refine Spec.is C77ok rfl ?_
  rcases c with c | c | c <;>
  ·simp only [push_cast, simprocAttr]
   intro b2 hb2 b4 hb4
   obtain ⟨n1, n2, hb4'⟩ := key b2 b4 hb2 hb4
   simp only [push_cast, simprocAttr, upd_at, n1, n2, c, a0, a1, b0, b1, qa, qb]
   (repeat first | refine sub_upd hb2 ?_ | refine sub_upd hb4' ?_); exact .refl _
 by_cases c4 : o.code = 4
 ·obtain ⟨a0, a1⟩ := hR2 c4
  have e : ren to o = { o with a := to.getD o.a.toNat 0 } := by unfold ren; rw [if_neg c, if_pos c4]
  have qa : o.a.toNat < to.length := by omega
  rw [e]
  refine Spec.is C77ok rfl ?_
  simp only [push_cast, simprocAttr]
  intro b2 hb2 b4 hb4
  obtain ⟨n1, n2, hb4'⟩ := key b2 b4 hb2 hb4
  simp only [push_cast, simprocAttr, upd_at, n1, n2, c4, a0, a1, qa]
  (repeat first | refine sub_upd hb2 ?_ | refine sub_upd hb4' ?_); exact .refl _
 ·have e : ren to o = o := by unfold ren; rw [if_neg c, if_neg c4]
  have c3 : ¬ (o.code ≥ 3) := by omega
  have c3' : ¬ (o.code = 3) := by omega
  have c5 : ¬ (o.code ≥ 5) := by omega
  rw [e]
  refine Spec.is C77ok rfl ?_
  simp only [push_cast, simprocAttr]
  intro b2 hb2 b4 hb4
  obtain ⟨n1, n2, hb4'⟩ := key b2 b4 hb2 hb4
  simp only [push_cast, simprocAttr, upd_at, n1, n2, c3, c3', c5]
  (repeat first | refine sub_upd hb2 ?_ | refine sub_upd hb4' ?_); exact .refl _
section
variable {l : List IOp} {x y : Int}
theorem ris_spec (n : Nat) (hn : n < 4294967296) (h0 : 0 ≤ x) (h1 : x < l.length) : Spec Tryz.prog G 113 [ops l, .int .i64 x, .int .u32 n] h (Is (.bool (isK l x n)) h) := by
 have q : x.toNat < l.length := by omega
 have hI : isK l x n = (decide ((l.getD x.toNat IOp.zero).code = 2) && decide ((l.getD x.toNat IOp.zero).imm.toNat = n)) := rfl
 have hq := num32 (l.getD x.toNat IOp.zero).imm n hn
 rw [hI]
 refine Spec.is C113ok rfl ?_
 by_cases c : (l.getD x.toNat IOp.zero).code = 2
 ·simp only [push_cast, simprocAttr, q, h0, h1, c, hq]
  try simp
 ·simp only [push_cast, simprocAttr, q, h0, h1, c, hq]
  try simp
theorem rshift_spec (h0 : 0 ≤ x) (h1 : x < l.length) : Spec Tryz.prog G 114 [ops l, .int .i64 x] h (Is (.bool (shK l x)) h) := by
 have q : x.toNat < l.length := by omega
 have hI : shK l x = (decide ((l.getD x.toNat IOp.zero).code = 2) && decide ((l.getD x.toNat IOp.zero).imm.toNat % 32 = 0)) := rfl
 have hq : (((l.getD x.toNat IOp.zero).imm.toNat : Int).tmod 32 == 0) = decide ((l.getD x.toNat IOp.zero).imm.toNat % 32 = 0) := by
  rw [Bool.eq_iff_iff, beq_iff_eq, decide_eq_true_eq, show ((l.getD x.toNat IOp.zero).imm.toNat : Int).tmod 32 = (((l.getD x.toNat IOp.zero).imm.toNat % 32 : Nat) : Int) from rfl]
  omega
 rw [hI]
 refine Spec.is C114ok rfl ?_
 by_cases c : (l.getD x.toNat IOp.zero).code = 2
 ·simp only [push_cast, simprocAttr, q, h0, h1, c, hq]
  try simp
 ·simp only [push_cast, simprocAttr, q, h0, h1, c, hq]
  try simp
end
theorem rplain28_spec (n : Int) : Spec Tryz.prog G 79 [.int .i64 n] h (Is (.int .i64 (plF n)) h) := by
 have k1 := rHas7_spec (G := G) (h := h) n
 have hb : (decide (19 ≤ n) && decide (n ≤ 37)) = decide (19 ≤ n ∧ n ≤ 37) := by rw [Bool.eq_iff_iff]; simp
 rw [hb] at k1
 clear hb
 unfold plF
 refine Spec.is C79ok rfl ?_
 by_cases c : 19 ≤ n ∧ n ≤ 37
 ·have k2 := rPlain_spec (G := G) (h := h) n c
  have := plain_rng n c
  rw [if_neg (by omega)]
  rw [decide_eq_true c] at k1
  simp only [push_cast, simprocAttr]
  refine k1.to ?_
  simp only [push_cast, simprocAttr]
  refine k2.to ?_
  simp only [push_cast, simprocAttr]
 ·rw [plain_out n c, if_pos rfl]
  rw [decide_eq_false c] at k1
  simp only [push_cast, simprocAttr]
  refine k1.to ?_
  simp only [push_cast, simprocAttr]
theorem rturns_spec (p : Int) : Spec Tryz.prog G 141 [.int .i64 p] h (Is (.bool (turN p)) h) := by
 unfold turN
 refine Spec.is C141ok rfl ?_
 by_cases c : p = 28 ∨ p = 36 ∨ p = 33 ∨ p = 37 ∨ p = 50 ∨ p = 51 ∨ p = 53
 ·rcases c with rfl | rfl | rfl | rfl | rfl | rfl | rfl <;>
  ·simp only [push_cast, simprocAttr]
   try simp
 ·have d1 : ¬ p = 28 := by omega
  have d2 : ¬ p = 36 := by omega
  have d3 : ¬ p = 33 := by omega
  have d4 : ¬ p = 37 := by omega
  have d5 : ¬ p = 50 := by omega
  have d6 : ¬ p = 51 := by omega
  have d7 : ¬ p = 53 := by omega
  simp only [push_cast, simprocAttr, d1, d2, d3, d4, d5, d6, d7]
  try simp [d1, d2, d3, d4, d5, d6, d7]
theorem rother_spec (n : Int) : Spec Tryz.prog G 117 [.int .i64 n] h (Is (.int .i64 (otherN n)) h) := by
 unfold otherN
 by_cases c : 5 ≤ n ∧ n ≤ 10
 ·rcases (show n = 5 ∨ n = 6 ∨ n = 7 ∨ n = 8 ∨ n = 9 ∨ n = 10 by omega) with rfl | rfl | rfl | rfl | rfl | rfl <;>
  ·refine Spec.is C117ok rfl ?_
   simp (disch := omega) only [push_cast, simprocAttr, wrap_i64, toNat_ofInt64, Nat.min_eq_left, Int.toNat_of_nonneg]
   try rfl
 ·rw [if_neg (by omega), if_neg (by omega)]
  refine Spec.is C117ok rfl ?_
  by_cases c1 : n < 5
  ·simp only [push_cast, simprocAttr, c1]
  ·have c2 : n > 10 := by omega
   simp only [push_cast, simprocAttr, c1, c2]
theorem bit_spec (mask : Nat) (k : Nat) (hm : mask < 4294967296) (hk : k < 4294967296) : Spec Tryz.prog G 39 [.int .i64 mask, .int .i64 k] h (Is (.bool (decide (mask / 2 ^ k % 2 = 1))) h) := by
 refine Spec.is C39ok rfl ?_
 simp only [push_cast, simprocAttr]
 refine lpc.rel [0, 1, 5] (fun m ρ h' => ∃ i q : Nat, m = k - i ∧ i ≤ k ∧ q = mask / 2 ^ i ∧ h = h' ∧ ρ = [(0, .int .i64 (q : Int)), (1, .int .i64 (k : Int)), (5, .int .i64 (i : Int))]) ⟨_, 0, mask, rfl, by omega, by simp, rfl, rfl⟩ ?_
 rintro m _ _ ⟨i, q, rfl, hi, hq, rfl, rfl⟩
 have hle : mask / 2 ^ i ≤ mask := Nat.div_le_self _ _
 have e : mask / 2 ^ (i + 1) = mask / 2 ^ i / 2 := by rw [Nat.pow_succ, Nat.div_div_eq_div_mul]
 rw [← hq] at hle e
 have t1 : ((q : Int).tdiv 2) = ((q / 2 : Nat) : Int) := rfl
 have t2 : ((q : Int).tmod 2) = ((q % 2 : Nat) : Int) := rfl
 by_cases c : i < k
 ·simp (disch := omega) only [push_cast, simprocAttr, wrap_i64, toNat_ofInt64, Nat.min_eq_left, Int.toNat_of_nonneg, c, t1, t2]
  exact ⟨_, _, by omega, .refl _, i + 1, q / 2, rfl, by omega, e.symm, rfl, rfl⟩
 ·obtain rfl : i = k := by omega
  rw [← hq]
  have c' : ¬ ((i : Int) < i) := by omega
  simp (disch := omega) only [push_cast, simprocAttr, wrap_i64, toNat_ofInt64, Nat.min_eq_left, Int.toNat_of_nonneg, c', t1, t2, Nat.lt_irrefl]
  congr 1
  rw [Bool.eq_iff_iff, beq_iff_eq, decide_eq_true_eq]
  omega
end Go.Ab
end
section
namespace Go.Ab
open Go.Proofs
variable {G : Glo} {h : Heap}
theorem isK_isC {l : List IOp} {v : Int} {n : Nat} (h : isCN l v = false) : isK l v n = false := by
 unfold isCN at h; unfold isK; rw [h]; rfl
theorem isK_two {l : List IOp} {v : Int} {n m : Nat} (hn : n ≠ m) (h : isK l v n = true) : isK l v m = false := by
 unfold isK at *
 simp only [Bool.and_eq_true, decide_eq_true_eq] at h
 rw [h.2, decide_eq_false hn, Bool.and_false]
def standsN (l : List IOp) (p x y : Int) : Int := if 0 ≤ stdN l p x y then stdN l p x y else if nothN l p x y then -2 else -1
structure StH (G : Glo) (h : Heap) (l : List IOp) (x y : Int) (e y0 x0 y1 x1 yF xF sy : Bool) : Prop where
 e : (x == y) = e
 y0 : Spec Tryz.prog G 113 [ops l, .int .i64 y, .int .u32 0] h (Is (.bool y0) h)
 x0 : Spec Tryz.prog G 113 [ops l, .int .i64 x, .int .u32 0] h (Is (.bool x0) h)
 y1 : Spec Tryz.prog G 113 [ops l, .int .i64 y, .int .u32 1] h (Is (.bool y1) h)
 x1 : Spec Tryz.prog G 113 [ops l, .int .i64 x, .int .u32 1] h (Is (.bool x1) h)
 yF : Spec Tryz.prog G 113 [ops l, .int .i64 y, .int .u32 4294967295] h (Is (.bool yF) h)
 xF : Spec Tryz.prog G 113 [ops l, .int .i64 x, .int .u32 4294967295] h (Is (.bool xF) h)
 sy : Spec Tryz.prog G 114 [ops l, .int .i64 y] h (Is (.bool sy) h)
section
variable {l : List IOp} {x y : Int} {e y0 x0 y1 x1 yF xF sy : Bool}
theorem rst28 (k : StH G h l x y e y0 x0 y1 x1 yF xF sy) : Spec Tryz.prog G 78 [ops l, .int .i64 28, .int .i64 x, .int .i64 y] h (Is (.int .i64 (if y0 then x else if x0 then y else -1)) h) := by
 obtain ⟨ke, ky0, kx0, ky1, kx1, kyF, kxF, ksy⟩ := k
 cases e <;>
 ·refine Spec.is C78ok rfl ?_
  simp only [push_cast, simprocAttr, ke]
  all_goals (try (refine ky0.to ?_; cases y0 <;> simp only [push_cast, simprocAttr, ke]))
  all_goals (try (refine kx0.to ?_; cases x0 <;> simp only [push_cast, simprocAttr, ke]))
  all_goals (try rfl)
theorem rst36 (k : StH G h l x y e y0 x0 y1 x1 yF xF sy) : Spec Tryz.prog G 78 [ops l, .int .i64 36, .int .i64 x, .int .i64 y] h (Is (.int .i64 (if y0 then x else if x0 then y else if e then x else -1)) h) := by
 obtain ⟨ke, ky0, kx0, ky1, kx1, kyF, kxF, ksy⟩ := k
 cases e <;>
 ·refine Spec.is C78ok rfl ?_
  simp only [push_cast, simprocAttr, ke]
  all_goals (try (refine ky0.to ?_; cases y0 <;> simp only [push_cast, simprocAttr, ke]))
  all_goals (try (refine kx0.to ?_; cases x0 <;> simp only [push_cast, simprocAttr, ke]))
  all_goals (try rfl)
theorem rst33 (k : StH G h l x y e y0 x0 y1 x1 yF xF sy) : Spec Tryz.prog G 78 [ops l, .int .i64 33, .int .i64 x, .int .i64 y] h (Is (.int .i64 (if y0 then x else if x0 then y else if e then -2 else -1)) h) := by
 obtain ⟨ke, ky0, kx0, ky1, kx1, kyF, kxF, ksy⟩ := k
 cases e <;>
 ·refine Spec.is C78ok rfl ?_
  simp only [push_cast, simprocAttr, ke]
  all_goals (try (refine ky0.to ?_; cases y0 <;> simp only [push_cast, simprocAttr, ke]))
  all_goals (try (refine kx0.to ?_; cases x0 <;> simp only [push_cast, simprocAttr, ke]))
  all_goals (try rfl)
theorem rst29 (k : StH G h l x y e y0 x0 y1 x1 yF xF sy) : Spec Tryz.prog G 78 [ops l, .int .i64 29, .int .i64 x, .int .i64 y] h (Is (.int .i64 (if y0 then x else if e then -2 else -1)) h) := by
 obtain ⟨ke, ky0, kx0, ky1, kx1, kyF, kxF, ksy⟩ := k
 cases e <;>
 ·refine Spec.is C78ok rfl ?_
  simp only [push_cast, simprocAttr, ke]
  all_goals (try (refine ky0.to ?_; cases y0 <;> simp only [push_cast, simprocAttr, ke]))
  all_goals (try rfl)
theorem rst30 (k : StH G h l x y e y0 x0 y1 x1 yF xF sy) : Spec Tryz.prog G 78 [ops l, .int .i64 30, .int .i64 x, .int .i64 y] h (Is (.int .i64 (if sy then x else -1)) h) := by
 obtain ⟨ke, ky0, kx0, ky1, kx1, kyF, kxF, ksy⟩ := k
 cases e <;>
 ·refine Spec.is C78ok rfl ?_
  simp only [push_cast, simprocAttr, ke]
  all_goals (try (refine ksy.to ?_; cases sy <;> simp only [push_cast, simprocAttr, ke]))
  all_goals (try rfl)
theorem rst34 (k : StH G h l x y e y0 x0 y1 x1 yF xF sy) : Spec Tryz.prog G 78 [ops l, .int .i64 34, .int .i64 x, .int .i64 y] h (Is (.int .i64 (if sy then x else -1)) h) := by
 obtain ⟨ke, ky0, kx0, ky1, kx1, kyF, kxF, ksy⟩ := k
 cases e <;>
 ·refine Spec.is C78ok rfl ?_
  simp only [push_cast, simprocAttr, ke]
  all_goals (try (refine ksy.to ?_; cases sy <;> simp only [push_cast, simprocAttr, ke]))
  all_goals (try rfl)
theorem rst35 (k : StH G h l x y e y0 x0 y1 x1 yF xF sy) : Spec Tryz.prog G 78 [ops l, .int .i64 35, .int .i64 x, .int .i64 y] h (Is (.int .i64 (if sy then x else -1)) h) := by
 obtain ⟨ke, ky0, kx0, ky1, kx1, kyF, kxF, ksy⟩ := k
 cases e <;>
 ·refine Spec.is C78ok rfl ?_
  simp only [push_cast, simprocAttr, ke]
  all_goals (try (refine ksy.to ?_; cases sy <;> simp only [push_cast, simprocAttr, ke]))
  all_goals (try rfl)
theorem rst37 (k : StH G h l x y e y0 x0 y1 x1 yF xF sy) : Spec Tryz.prog G 78 [ops l, .int .i64 37, .int .i64 x, .int .i64 y] h (Is (.int .i64 (if e then x else if yF then x else if xF then y else if y0 || x0 then -2 else -1)) h) := by
 obtain ⟨ke, ky0, kx0, ky1, kx1, kyF, kxF, ksy⟩ := k
 cases e <;>
 ·refine Spec.is C78ok rfl ?_
  simp only [push_cast, simprocAttr, ke]
  all_goals (try (refine kyF.to ?_; cases yF <;> simp only [push_cast, simprocAttr, ke]))
  all_goals (try (refine kxF.to ?_; cases xF <;> simp only [push_cast, simprocAttr, ke]))
  all_goals (try (refine ky0.to ?_; cases y0 <;> simp only [push_cast, simprocAttr, ke]))
  all_goals (try (refine kx0.to ?_; cases x0 <;> simp only [push_cast, simprocAttr, ke]))
  all_goals (try rfl)
theorem rst50 (k : StH G h l x y e y0 x0 y1 x1 yF xF sy) : Spec Tryz.prog G 78 [ops l, .int .i64 50, .int .i64 x, .int .i64 y] h (Is (.int .i64 (if y0 || x0 then -2 else if y1 then x else if x1 then y else -1)) h) := by
 obtain ⟨ke, ky0, kx0, ky1, kx1, kyF, kxF, ksy⟩ := k
 cases e <;>
 ·refine Spec.is C78ok rfl ?_
  simp only [push_cast, simprocAttr, ke]
  all_goals (try (refine ky0.to ?_; cases y0 <;> simp only [push_cast, simprocAttr, ke]))
  all_goals (try (refine kx0.to ?_; cases x0 <;> simp only [push_cast, simprocAttr, ke]))
  all_goals (try (refine ky1.to ?_; cases y1 <;> simp only [push_cast, simprocAttr, ke]))
  all_goals (try (refine kx1.to ?_; cases x1 <;> simp only [push_cast, simprocAttr, ke]))
  all_goals (try rfl)
theorem rst31 (k : StH G h l x y e y0 x0 y1 x1 yF xF sy) : Spec Tryz.prog G 78 [ops l, .int .i64 31, .int .i64 x, .int .i64 y] h (Is (.int .i64 (if e then -2 else -1)) h) := by
 obtain ⟨ke, ky0, kx0, ky1, kx1, kyF, kxF, ksy⟩ := k
 cases e <;>
 ·refine Spec.is C78ok rfl ?_
  simp only [push_cast, simprocAttr, ke]
  all_goals (try rfl)
theorem rst32 (k : StH G h l x y e y0 x0 y1 x1 yF xF sy) : Spec Tryz.prog G 78 [ops l, .int .i64 32, .int .i64 x, .int .i64 y] h (Is (.int .i64 (if e || y0 then -2 else -1)) h) := by
 obtain ⟨ke, ky0, kx0, ky1, kx1, kyF, kxF, ksy⟩ := k
 cases e <;>
 ·refine Spec.is C78ok rfl ?_
  simp only [push_cast, simprocAttr, ke]
  all_goals (try (refine ky0.to ?_; cases y0 <;> simp only [push_cast, simprocAttr, ke]))
  all_goals (try rfl)
theorem rst55 (k : StH G h l x y e y0 x0 y1 x1 yF xF sy) : Spec Tryz.prog G 78 [ops l, .int .i64 55, .int .i64 x, .int .i64 y] h (Is (.int .i64 (if y1 then x else -1)) h) := by
 obtain ⟨ke, ky0, kx0, ky1, kx1, kyF, kxF, ksy⟩ := k
 cases e <;>
 ·refine Spec.is C78ok rfl ?_
  simp only [push_cast, simprocAttr, ke]
  all_goals (try (refine ky1.to ?_; cases y1 <;> simp only [push_cast, simprocAttr, ke]))
  all_goals (try rfl)
theorem rstO (k : StH G h l x y e y0 x0 y1 x1 yF xF sy) {p : Int} (hp : ¬ p = 28 ∧ ¬ p = 36 ∧ ¬ p = 33 ∧ ¬ p = 29 ∧ ¬ p = 30 ∧ ¬ p = 34 ∧ ¬ p = 35 ∧ ¬ p = 37 ∧ ¬ p = 50 ∧ ¬ p = 31 ∧ ¬ p = 32 ∧ ¬ p = 55) : Spec Tryz.prog G 78 [ops l, .int .i64 p, .int .i64 x, .int .i64 y] h (Is (.int .i64 (-1)) h) := by
 obtain ⟨d0, d1, d2, d3, d4, d5, d6, d7, d8, d9, d10, d11⟩ := hp
 have ke := k.e
 clear k
 have b0 : (p == 28) = false := by simpa using d0
 have b1 : (p == 36) = false := by simpa using d1
 have b2 : (p == 33) = false := by simpa using d2
 have b3 : (p == 29) = false := by simpa using d3
 have b4 : (p == 30) = false := by simpa using d4
 have b5 : (p == 34) = false := by simpa using d5
 have b6 : (p == 35) = false := by simpa using d6
 have b7 : (p == 37) = false := by simpa using d7
 have b8 : (p == 50) = false := by simpa using d8
 have b9 : (p == 31) = false := by simpa using d9
 have b10 : (p == 32) = false := by simpa using d10
 have b11 : (p == 55) = false := by simpa using d11
 cases e <;>
 ·refine Spec.is C78ok rfl ?_
  simp only [push_cast, simprocAttr, ke, b0, b1, b2, b3, b4, b5, b6, b7, b8, b9, b10, b11, Bool.or_false]
  try rfl
end
theorem rstands_spec {l : List IOp} {x y : Int} (p : Int) (hx0 : 0 ≤ x) (hx1 : x < l.length) (hy0 : 0 ≤ y) (hy1 : y < l.length) (hnc : (isCN l x && isCN l y) = false) :
  Spec Tryz.prog G 78 [ops l, .int .i64 p, .int .i64 x, .int .i64 y] h (Is (.int .i64 (standsN l p x y)) h) := by
 have k : StH G h l x y (decide (x = y)) (isK l y 0) (isK l x 0) (isK l y 1) (isK l x 1) (isK l y 4294967295) (isK l x 4294967295) (shK l y) :=
  ⟨rfl, ris_spec 0 (by omega) hy0 hy1, ris_spec 0 (by omega) hx0 hx1, ris_spec 1 (by omega) hy0 hy1, ris_spec 1 (by omega) hx0 hx1, ris_spec 4294967295 (by omega) hy0 hy1, ris_spec 4294967295 (by omega) hx0 hx1, rshift_spec hy0 hy1⟩
 have h50 : (isK l y 0 || isK l x 0) = true → isK l y 1 = false ∧ isK l x 1 = false := by
  intro q
  rw [Bool.or_eq_true] at q
  rw [Bool.and_eq_false_iff] at hnc
  rcases q with q | q
  ·rcases hnc with c | c
   ·exact ⟨isK_two (by omega) q, isK_isC c⟩
   ·rw [isK_isC c] at q; cases q
  ·rcases hnc with c | c
   ·rw [isK_isC c] at q; cases q
   ·exact ⟨isK_isC c, isK_two (by omega) q⟩
 have hxx : x = y → isK l x 0 = isK l y 0 ∧ isK l x 4294967295 = isK l y 4294967295 ∧ isK l x 1 = isK l y 1 := fun e => by rw [e]; exact ⟨rfl, rfl, rfl⟩
 have hyx : (y = x) = (x = y) := propext ⟨Eq.symm, Eq.symm⟩
 unfold standsN stdN neuN turF nothN
 simp only [hyx]
 clear hnc hx1 hy1
 have d0 : 0 ≤ x := hx0
 have d1 : 0 ≤ y := hy0
 generalize isK l y 0 = y0 at *
 generalize isK l x 0 = x0 at *
 generalize isK l y 1 = y1 at *
 generalize isK l x 1 = x1 at *
 generalize isK l y 4294967295 = yF at *
 generalize isK l x 4294967295 = xF at *
 generalize shK l y = sy at *
 by_cases c28 : p = 28
 ·subst c28
  refine (rst28 k).mono fun r h' q => ⟨q.1.trans (congrArg _ ?_), q.2⟩
  clear k q
  by_cases e : x = y
  ·obtain ⟨e1, e2, e3⟩ := hxx e
   subst e
   subst e1 e2 e3
   revert h50
   cases x0 <;> cases x1 <;> cases xF <;> cases sy <;> simp <;> omega
  ·rw [decide_eq_false e]
   revert h50
   cases y0 <;> cases x0 <;> cases y1 <;> cases x1 <;> cases yF <;> cases xF <;> cases sy <;> simp [e] <;> omega
 by_cases c36 : p = 36
 ·subst c36
  refine (rst36 k).mono fun r h' q => ⟨q.1.trans (congrArg _ ?_), q.2⟩
  clear k q
  by_cases e : x = y
  ·obtain ⟨e1, e2, e3⟩ := hxx e
   subst e
   subst e1 e2 e3
   revert h50
   cases x0 <;> cases x1 <;> cases xF <;> cases sy <;> simp <;> omega
  ·rw [decide_eq_false e]
   revert h50
   cases y0 <;> cases x0 <;> cases y1 <;> cases x1 <;> cases yF <;> cases xF <;> cases sy <;> simp [e] <;> omega
 by_cases c33 : p = 33
 ·subst c33
  refine (rst33 k).mono fun r h' q => ⟨q.1.trans (congrArg _ ?_), q.2⟩
  clear k q
  by_cases e : x = y
  ·obtain ⟨e1, e2, e3⟩ := hxx e
   subst e
   subst e1 e2 e3
   revert h50
   cases x0 <;> cases x1 <;> cases xF <;> cases sy <;> simp <;> omega
  ·rw [decide_eq_false e]
   revert h50
   cases y0 <;> cases x0 <;> cases y1 <;> cases x1 <;> cases yF <;> cases xF <;> cases sy <;> simp [e] <;> omega
 by_cases c29 : p = 29
 ·subst c29
  refine (rst29 k).mono fun r h' q => ⟨q.1.trans (congrArg _ ?_), q.2⟩
  clear k q
  by_cases e : x = y
  ·obtain ⟨e1, e2, e3⟩ := hxx e
   subst e
   subst e1 e2 e3
   revert h50
   cases x0 <;> cases x1 <;> cases xF <;> cases sy <;> simp <;> omega
  ·rw [decide_eq_false e]
   revert h50
   cases y0 <;> cases x0 <;> cases y1 <;> cases x1 <;> cases yF <;> cases xF <;> cases sy <;> simp [e] <;> omega
 by_cases c30 : p = 30
 ·subst c30
  refine (rst30 k).mono fun r h' q => ⟨q.1.trans (congrArg _ ?_), q.2⟩
  clear k q
  by_cases e : x = y
  ·obtain ⟨e1, e2, e3⟩ := hxx e
   subst e
   subst e1 e2 e3
   revert h50
   cases x0 <;> cases x1 <;> cases xF <;> cases sy <;> simp <;> omega
  ·rw [decide_eq_false e]
   revert h50
   cases y0 <;> cases x0 <;> cases y1 <;> cases x1 <;> cases yF <;> cases xF <;> cases sy <;> simp [e] <;> omega
 by_cases c34 : p = 34
 ·subst c34
  refine (rst34 k).mono fun r h' q => ⟨q.1.trans (congrArg _ ?_), q.2⟩
  clear k q
  by_cases e : x = y
  ·obtain ⟨e1, e2, e3⟩ := hxx e
   subst e
   subst e1 e2 e3
   revert h50
   cases x0 <;> cases x1 <;> cases xF <;> cases sy <;> simp <;> omega
  ·rw [decide_eq_false e]
   revert h50
   cases y0 <;> cases x0 <;> cases y1 <;> cases x1 <;> cases yF <;> cases xF <;> cases sy <;> simp [e] <;> omega
 by_cases c35 : p = 35
 ·subst c35
  refine (rst35 k).mono fun r h' q => ⟨q.1.trans (congrArg _ ?_), q.2⟩
  clear k q
  by_cases e : x = y
  ·obtain ⟨e1, e2, e3⟩ := hxx e
   subst e
   subst e1 e2 e3
   revert h50
   cases x0 <;> cases x1 <;> cases xF <;> cases sy <;> simp <;> omega
  ·rw [decide_eq_false e]
   revert h50
   cases y0 <;> cases x0 <;> cases y1 <;> cases x1 <;> cases yF <;> cases xF <;> cases sy <;> simp [e] <;> omega
 by_cases c37 : p = 37
 ·subst c37
  refine (rst37 k).mono fun r h' q => ⟨q.1.trans (congrArg _ ?_), q.2⟩
  clear k q
  by_cases e : x = y
  ·obtain ⟨e1, e2, e3⟩ := hxx e
   subst e
   subst e1 e2 e3
   revert h50
   cases x0 <;> cases x1 <;> cases xF <;> cases sy <;> simp <;> omega
  ·rw [decide_eq_false e]
   revert h50
   cases y0 <;> cases x0 <;> cases y1 <;> cases x1 <;> cases yF <;> cases xF <;> cases sy <;> simp [e] <;> omega
 by_cases c50 : p = 50
 ·subst c50
  refine (rst50 k).mono fun r h' q => ⟨q.1.trans (congrArg _ ?_), q.2⟩
  clear k q
  by_cases e : x = y
  ·obtain ⟨e1, e2, e3⟩ := hxx e
   subst e
   subst e1 e2 e3
   revert h50
   cases x0 <;> cases x1 <;> cases xF <;> cases sy <;> simp <;> omega
  ·rw [decide_eq_false e]
   revert h50
   cases y0 <;> cases x0 <;> cases y1 <;> cases x1 <;> cases yF <;> cases xF <;> cases sy <;> simp [e] <;> omega
 by_cases c31 : p = 31
 ·subst c31
  refine (rst31 k).mono fun r h' q => ⟨q.1.trans (congrArg _ ?_), q.2⟩
  clear k q
  by_cases e : x = y
  ·obtain ⟨e1, e2, e3⟩ := hxx e
   subst e
   subst e1 e2 e3
   revert h50
   cases x0 <;> cases x1 <;> cases xF <;> cases sy <;> simp <;> omega
  ·rw [decide_eq_false e]
   revert h50
   cases y0 <;> cases x0 <;> cases y1 <;> cases x1 <;> cases yF <;> cases xF <;> cases sy <;> simp [e] <;> omega
 by_cases c32 : p = 32
 ·subst c32
  refine (rst32 k).mono fun r h' q => ⟨q.1.trans (congrArg _ ?_), q.2⟩
  clear k q
  by_cases e : x = y
  ·obtain ⟨e1, e2, e3⟩ := hxx e
   subst e
   subst e1 e2 e3
   revert h50
   cases x0 <;> cases x1 <;> cases xF <;> cases sy <;> simp <;> omega
  ·rw [decide_eq_false e]
   revert h50
   cases y0 <;> cases x0 <;> cases y1 <;> cases x1 <;> cases yF <;> cases xF <;> cases sy <;> simp [e] <;> omega
 by_cases c55 : p = 55
 ·subst c55
  refine (rst55 k).mono fun r h' q => ⟨q.1.trans (congrArg _ ?_), q.2⟩
  clear k q
  by_cases e : x = y
  ·obtain ⟨e1, e2, e3⟩ := hxx e
   subst e
   subst e1 e2 e3
   revert h50
   cases x0 <;> cases x1 <;> cases xF <;> cases sy <;> simp <;> omega
  ·rw [decide_eq_false e]
   revert h50
   cases y0 <;> cases x0 <;> cases y1 <;> cases x1 <;> cases yF <;> cases xF <;> cases sy <;> simp [e] <;> omega
 ·refine (rstO k ⟨c28, c36, c33, c29, c30, c34, c35, c37, c50, c31, c32, c55⟩).mono fun r h' q => ⟨q.1.trans (congrArg _ ?_), q.2⟩
  simp [c28, c36, c33, c29, c30, c34, c35, c37, c50, c31, c32, c55]
end Go.Ab
end
section
namespace Go.Ab
open Go.Proofs
variable {G : Glo} {h : Heap}
theorem exOK_get {to : List Int} {e : IEx} (ok : exOK to e) {j : Nat} (hj : j < e.map.length) : 0 ≤ (e.map.getD j IVl.zero).val ∧ (e.map.getD j IVl.zero).val < to.length := by
 refine ok.2 _ ?_
 rw [List.getD_eq_getElem?_getD, List.getElem?_eq_getElem hj]
 exact List.getElem_mem hj
theorem rex_body {es : List IEx} {to : List Int} {h2 : Heap} {k b7 : Nat} {v : AV} {cells : List AV} {e : IEx} {Q : Exit → Env → Heap → Prop} (hown : Own 5 h v cells k h2) (hb7 : h2 b7 = none) (hk : k < es.length) (hl : es.length ≤ 1000000000000) (hok : exOK to e) (hml : e.map.length ≤ 1000000000000)
  (e4 : (es.flatMap IEx.cells)[k * 5 + 4]? = some (vls e.map)) (hq : ∀ ρ v' H' h6, lk ρ 0 = exs es → lk ρ 1 = ints to → lk ρ 5 = v' → lk ρ 6 = .int .i64 (k : Int) → Sub h6 H' → Own 5 h v' (cells ++ (renE to e).cells) (k + 1) h6 → Q .normal ρ H') :
  wpc Tryz.prog G Tryz.f59.ntmps C59_25 Q [(0, exs es), (1, ints to), (5, v), (6, .int .i64 (k : Int)), (7, .ptr b7 0)] (Ab.upd h2 b7 ⟨[.int .i64 e.done, .int .u32 (e.pc.toNat : Int), .int .i64 (renE to e).to, .int .i64 e.why, .nils], 0⟩) := by
 simp only [push_cast, simprocAttr]
 generalize hT : (renE to e).to = T
 refine lpc.rel [0, 1, 5, 6, 7, 8] (fun m ρ h' => ∃ (j : Nat) (v7 : AV), m = e.map.length - j ∧ j ≤ e.map.length ∧ Own 2 (Ab.upd h2 b7 ⟨[.int .i64 e.done, .int .u32 (e.pc.toNat : Int), .int .i64 T, .int .i64 e.why, v7], 0⟩) v7 (((e.map.map (renV to)).take j).flatMap IVl.cells) j h' ∧
  ρ = [(0, exs es), (1, ints to), (5, v), (6, .int .i64 (k : Int)), (7, .ptr b7 0), (8, .int .i64 (j : Int))]) ⟨_, 0, .nils, rfl, by omega, .nil, rfl⟩ ?_
 rintro m _ g2 ⟨j, v7, rfl, hj, ho7, rfl⟩
 have hg7 := ho7.get (upd_same _ _ _)
 by_cases hj2 : j < e.map.length
 ·obtain ⟨q1, q2⟩ := exOK_get hok hj2
  have q3 : (e.map.getD j IVl.zero).val.toNat < to.length := by omega
  have hsn := flat_snoc IVl.cells (e.map.map (renV to)) IVl.zero j (by simpa using hj2)
  rw [show (e.map.map (renV to)).getD j IVl.zero = renV to (e.map.getD j IVl.zero) by simp [hj2]] at hsn
  simp only [push_cast, simprocAttr, hg7, hk, e4, hj2, q1, q2, q3]
  refine Own.app ho7 (m := 1) rfl (by omega) (by omega) fun v8 h8 ho8 => ?_
  have hg8 := ho8.get (upd_same _ _ _)
  have ho9 := Own.upd ho8 (b := b7) (x := ⟨[.int .i64 e.done, .int .u32 (e.pc.toNat : Int), .int .i64 T, .int .i64 e.why, v8], 0⟩) (.inr ⟨_, upd_same _ _ _⟩)
  rw [upd_upd] at ho9
  simp (disch := omega) only [push_cast, simprocAttr, wrap_i64, toNat_ofInt64, Nat.min_eq_left, Int.toNat_of_nonneg, hg8, ho8.one]
  exact ⟨_, _, by omega, .refl _, j + 1, v8, rfl, by omega, by rw [hsn]; exact ho9, rfl⟩
 ·obtain rfl : j = e.map.length := by omega
  rw [List.take_of_length_le (by simp)] at ho7
  simp only [push_cast, simprocAttr, hg7, hk, e4, hj2]
  refine wkQ.cell ho7 (cs' := (renE to e).cells) rfl (fun i => ?_) ?_
  ·match i with
   | 0 => exact .inl rfl
   | 1 => exact .inl rfl
   | 2 => exact .inl (by rw [← hT]; rfl)
   | 3 => exact .inl rfl
   | 4 => exact .inr ⟨rfl, by simp [renE, IEx.cells]⟩
   | i + 5 => exact .inl rfl
  clear hg7 ho7 hj2 v7 g2
  subst hT
  have ho' := Own.upd hown (b := b7) (x := ⟨(renE to e).cells, 0⟩) (.inl hb7)
  simp only [push_cast, simprocAttr]
  refine Own.app ho' (m := 1) (IEx.len _) (by omega) (by omega) fun v4 h4 ho4 => ?_
  simp only [push_cast, simprocAttr, ho4.one]
  obtain ⟨h6, hs6, ho6⟩ := Own.drop ho4 (hown.sub.none hb7)
  exact hq _ v4 _ h6 rfl rfl rfl rfl hs6 ho6
theorem rExits_spec (es : List IEx) (to : List Int) (ok : ∀ k, k < es.length → exOK to (es.getD k IEx.zero)) (hl : es.length ≤ 1000000000000) (hm : ∀ k, k < es.length → (es.getD k IEx.zero).map.length ≤ 1000000000000) :
  Spec Tryz.prog G 59 [exs es, ints to] h (Is (exs (es.map (renE to))) h) := by
 refine Spec.is C59ok rfl ?_
 simp only [push_cast, simprocAttr]
 intro b8 hb8
 refine lpc.rel [0, 1, 5, 6] (fun m ρ h' => ∃ (k : Nat) (v : AV), m = es.length - k ∧ k ≤ es.length ∧ Own 5 h v (((es.map (renE to)).take k).flatMap IEx.cells) k h' ∧
  ρ = [(0, exs es), (1, ints to), (5, v), (6, .int .i64 (k : Int))]) ⟨_, 0, _, rfl, by omega, own_new hb8, rfl⟩ ?_
 rintro m _ h2 ⟨k, v, rfl, hk, hown, rfl⟩
 by_cases hk2 : k < es.length
 ·have hok := ok k hk2
  have hml := hm k hk2
  have hsn := flat_snoc IEx.cells (es.map (renE to)) IEx.zero k (by simpa using hk2)
  rw [show (es.map (renE to)).getD k IEx.zero = renE to (es.getD k IEx.zero) by simp [hk2]] at hsn
  have e0 := flat_getD IEx.cells 5 es IEx.zero IEx.len k 0 (by omega)
  have e1 := flat_getD IEx.cells 5 es IEx.zero IEx.len k 1 (by omega)
  have e2 := flat_getD IEx.cells 5 es IEx.zero IEx.len k 2 (by omega)
  have e3 := flat_getD IEx.cells 5 es IEx.zero IEx.len k 3 (by omega)
  have e4 := flat_getD IEx.cells 5 es IEx.zero IEx.len k 4 (by omega)
  rw [if_pos hk2] at e0 e1 e2 e3 e4
  rw [Nat.add_zero] at e0
  generalize es.getD k IEx.zero = e at *
  have hB := fun b7 hb7 Q hq => rex_body (Q := Q) (G := G) (b7 := b7) hown hb7 hk2 hl hok hml e4 hq
  have ht' : (renE to e).to = if e.to = -1 then -1 else to.getD e.to.toNat 0 := rfl
  show wpc _ _ _ (.seq [0, 1, 5, 6] C59_5 (.seq [0, 1, 5, 6] (.block 1 (.seq [0, 1, 5, 6, 7] C59_6 (.seq [0, 1, 5, 6, 7] C59_10 C59_25))) C59_29)) _ _ _
  generalize C59_25 = Y at hB ⊢
  by_cases ht : e.to = -1
  ·rw [if_pos ht] at ht'
   rw [ht'] at hB
   simp only [push_cast, simprocAttr, hk2, e0, e1, e2, e3, e4, ht]
   intro b7 hb7
   refine hB b7 hb7 _ fun ρ v' H' h6 l0 l1 l5 l6 hs o => ?_
   simp (disch := omega) only [push_cast, simprocAttr, wrap_i64, toNat_ofInt64, Nat.min_eq_left, Int.toNat_of_nonneg, l0, l1, l5, l6]
   exact ⟨_, h6, by omega, hs, k + 1, v', rfl, by omega, by rw [hsn]; exact o, rfl⟩
  ·rw [if_neg ht] at ht'
   obtain ⟨q1, q2⟩ := hok.1.resolve_left ht
   have q3 : e.to.toNat < to.length := by omega
   rw [ht'] at hB
   simp only [push_cast, simprocAttr, hk2, e0, e1, e2, e3, e4, ht, q1, q2, q3]
   intro b7 hb7
   refine hB b7 hb7 _ fun ρ v' H' h6 l0 l1 l5 l6 hs o => ?_
   simp (disch := omega) only [push_cast, simprocAttr, wrap_i64, toNat_ofInt64, Nat.min_eq_left, Int.toNat_of_nonneg, l0, l1, l5, l6]
   exact ⟨_, h6, by omega, hs, k + 1, v', rfl, by omega, by rw [hsn]; exact o, rfl⟩
 ·obtain rfl : k = es.length := by omega
  rw [List.take_of_length_le (by simp)] at hown
  simp only [push_cast, simprocAttr, hk2]
  refine wkQ.own hown ?_
  simp only [push_cast, simprocAttr]
  simp
end Go.Ab
end
section
namespace Go.Ab
open Go.Proofs
variable {G : Glo} {h : Heap}
theorem borrow_agg {P : Program} {f : FuncId} {args args' : List AV} {h : Heap} {cells : List AV} (hs : Spec P G f args' noH (Is (.agg cells) noH)) (ha : Args1 h args args') (hv : cells.all flatV = true) : Spec P G f args h (Is (.agg cells) h) := by
 intro w vs k1 k2 k3
 refine (hs w vs (fun b x hx => by cases hx) ⟨fun g => by rw [noH_dom]; exact rep_noO (k2.1 g), fun x v e => by rw [noH_dom]; exact rep_noO (k2.2 x v e)⟩ (by rw [noH_dom]; exact ha.rep k1 k3)).mono ?_
 rintro e w' ⟨v, r, h1, he, q, _, m2, m3⟩
 obtain ⟨rfl, rfl⟩ := q
 have hk : Keeps w h.dom w' h.dom := ⟨m3.size, fun b hb hn => ⟨hn, (m3.blk b hb rfl).2⟩, m3.cel⟩
 obtain ⟨cs, rfl, hl, h1, hr⟩ := rep_agg m2
 refine ⟨_, .agg cells, h, he, ⟨rfl, rfl⟩, fun b x hb => own_keep (k1 b x hb) (m3.blk b (own_lt (k1 b x hb)) rfl).2 hk, .agg cells cs hl h1 fun i a c ha hc => rep_flat1 ?_ (hr i a c ha hc), ⟨m3.size, fun b hb hn => ⟨hn, (m3.blk b hb rfl).2⟩, m3.cel, m3.os, m3.tape, m3.out⟩⟩
 exact List.all_eq_true.1 hv a (List.mem_of_getElem? ha)
def TwoO (g : Heap) (vl : AV) (l : List IOp) (vt : AV) (to : List Int) (H : Heap) : Prop := ∃ h1, Own 6 g vl (l.flatMap IOp.cells) l.length h1 ∧ Own 1 h1 vt (to.map (.int .i64)) to.length H
section
variable {g H : Heap} {vl vt : AV} {l : List IOp} {to : List Int} {b : Nat} {x : Blk}
theorem TwoO.of {h1 : Heap} (o1 : Own 1 g vt (to.map (.int .i64)) to.length h1) (o2 : Own 6 h1 vl (l.flatMap IOp.cells) l.length H) : TwoO g vl l vt to H := own_swap o1 o2
theorem TwoO.get (hr : TwoO g vl l vt to H) (hb : g b = some x) : H b = some x := by
 obtain ⟨h1, o1, o2⟩ := hr
 exact o2.get (o1.get hb)
theorem TwoO.none (hr : TwoO g vl l vt to H) (hb : H b = Option.none) : g b = Option.none := by
 obtain ⟨h1, o1, o2⟩ := hr
 exact o1.sub.none (o2.sub.none hb)
theorem TwoO.argT (hr : TwoO g vl l vt to H) : Arg1 H vt (ints to) := by
 obtain ⟨h1, o1, o2⟩ := hr
 have := o2.arg
 simpa using this
theorem TwoO.argL (hr : TwoO g vl l vt to H) : Arg1 H vl (ops l) := by
 obtain ⟨h1, o1, o2⟩ := hr
 obtain ⟨h2, o3, o4⟩ := own_swap o1 o2
 exact o4.arg
theorem TwoO.upd (hr : TwoO g vl l vt to H) (hb : H b = Option.none ∨ ∃ y, g b = some y) : TwoO (Ab.upd g b x) vl l vt to (Ab.upd H b x) := by
 obtain ⟨h1, o1, o2⟩ := hr
 rcases hb with hb | ⟨y, hb⟩
 ·exact ⟨_, o1.upd (.inl (o2.sub.none hb)), o2.upd (.inl hb)⟩
 ·exact ⟨_, o1.upd (.inr ⟨y, hb⟩), o2.upd (.inr ⟨y, o1.get hb⟩)⟩
theorem TwoO.drop (hr : TwoO (Ab.upd g b x) vl l vt to H) (hb : g b = Option.none) : ∃ H1, Sub H1 H ∧ TwoO g vl l vt to H1 := by
 obtain ⟨h1, o1, o2⟩ := hr
 obtain ⟨h2, s1, o3⟩ := o1.drop hb
 obtain ⟨h3, o4, s2⟩ := own_small s1 o2
 exact ⟨h3, s2, h2, o3, o4⟩
theorem TwoO.appT (hr : TwoO g vl l vt to H) (y : Int) (hn : to.length + 1 ≤ 1000000000000) {Q : AV → Heap → Prop} (hq : ∀ v' h', TwoO g vl l v' (to ++ [y]) h' → Q v' h') : appQ 1 8 1 [.int .i64 y] vt H Q := by
 obtain ⟨h1, o1, o2⟩ := hr
 refine Own.app o2 (m := 1) rfl (by omega) (by omega) fun v' h' o => hq v' h' ⟨h1, o1, by simpa using o⟩
theorem TwoO.appL (hr : TwoO g vl l vt to H) (o : IOp) (hn : l.length + 1 ≤ 1000000000000) {Q : AV → Heap → Prop} (hq : ∀ v' h', TwoO g v' (l ++ [o]) vt to h' → Q v' h') : appQ 6 48 1 o.cells vl H Q := by
 obtain ⟨h1, o1, o2⟩ := hr
 obtain ⟨h2, o3, o4⟩ := own_swap o1 o2
 exact Own.app o4 (m := 1) (IOp.len _) (by omega) (by omega) fun v' h' o => hq v' h' (.of o3 (by simpa using o))
theorem TwoO.one (hr : TwoO g vl l vt to H) : cellsOf vt = some [vt] ∧ cellsOf vl = some [vl] ∧ alen vl = some l.length := by
 obtain ⟨h1, o1, o2⟩ := hr
 exact ⟨o2.one, o1.one, o1.alen⟩
theorem TwoO.lieL (hr : TwoO g vl l vt to H) (hn : 0 < l.length) : ∃ b pre cap sp, vl = .sl b pre.length l.length cap ∧ H b = some ⟨pre ++ l.flatMap IOp.cells, sp⟩ ∧ g b = Option.none := by
 obtain ⟨h1, o1, o2⟩ := hr
 obtain ⟨b, pre, cap, sp, e1, e2, e3, _⟩ := own_lie o1 hn
 exact ⟨b, pre, cap, sp, e1, o2.get e2, e3⟩
theorem TwoO.lieT (hr : TwoO g vl l vt to H) (hn : 0 < to.length) : ∃ b pre cap sp, vt = .sl b pre.length to.length cap ∧ H b = some ⟨pre ++ to.map (.int .i64), sp⟩ ∧ g b = Option.none := by
 obtain ⟨h1, o1, o2⟩ := hr
 obtain ⟨b, pre, cap, sp, e1, e2, e3, _⟩ := own_lie o2 hn
 exact ⟨b, pre, cap, sp, e1, e2, o1.sub.none e3⟩
theorem TwoO.freeze {K : AV → Heap → Prop} (hr : TwoO g vl l vt to H) (hq : ∀ h1, Own 6 g vl (l.flatMap IOp.cells) l.length h1 → K (ints to) h1) : wkQ K vt H := by
 obtain ⟨h1, o1, o2⟩ := hr
 have := o2.freeze
 exact ⟨_, _, by simpa using this, hq h1 o1⟩
end
theorem rfold_tail {g H : Heap} {vl vt : AV} {l : List IOp} {to : List Int} {b6 b2 : Nat} {o : IOp} {u w : AV} {vv : Int} {Q : Exit → Env → Heap → Prop} (hr : TwoO (Ab.upd g b6 ⟨o.cells, 0⟩) vl l vt to H) (hl : l.length + 1 ≤ 1000000000000) (ht : to.length + 1 ≤ 1000000000000)
  (hq1 : 0 ≤ vv → ∀ ρ vt' H', lk ρ 1 = u → lk ρ 2 = .ptr b2 0 → lk ρ 3 = vl → lk ρ 4 = vt' → lk ρ 5 = w → TwoO (Ab.upd g b6 ⟨o.cells, 0⟩) vl l vt' (to ++ [vv]) H' → Q (.exit 1) ρ H')
  (hq2 : vv < 0 → ∀ ρ vl' vt' x H', lk ρ 1 = u → lk ρ 2 = .ptr b2 0 → lk ρ 3 = vl' → lk ρ 4 = vt' → lk ρ 5 = w → TwoO (Ab.upd g b6 x) vl' (l ++ [if vv = -2 then IOp.num 0 else o]) vt' (to ++ [(l.length : Int)]) H' → Q .normal ρ H') :
  wpc Tryz.prog G Tryz.f40.ntmps C40_30 Q [(1, u), (2, .ptr b2 0), (3, vl), (4, vt), (5, w), (6, .ptr b6 0), (7, .int .i64 vv)] H := by
 by_cases c : vv ≥ 0
 ·simp only [push_cast, simprocAttr, c]
  refine hr.appT vv ht fun v' h' hr' => ?_
  simp only [push_cast, simprocAttr, hr'.one.1]
  exact hq1 c _ v' _ rfl rfl rfl rfl rfl hr'
 ·have hb6 := hr.get (upd_same _ _ _)
  have hal := hr.one.2.2
  by_cases c2 : vv = -2
  ·have hq3 := hq2 (by omega)
   rw [if_pos c2] at hq3
   subst c2
   have hr2 := hr.upd (b := b6) (x := ⟨(IOp.num 0).cells, 0⟩) (.inr ⟨_, upd_same _ _ _⟩)
   rw [upd_upd] at hr2
   have hz : [AV.int .i64 2, .int .i64 0, .int .i64 0, .int .u32 0, .int .i64 0, .int .i64 0] = (IOp.num 0).cells := rfl
   simp only [push_cast, simprocAttr, hb6, hal, hz]
   refine hr2.appT l.length ht fun v' h' hr3 => ?_
   have hb3 := hr3.get (upd_same _ _ _)
   simp only [push_cast, simprocAttr, hr3.one.1, hb3]
   refine hr3.appL _ hl fun v4 h4 hr4 => ?_
   simp only [push_cast, simprocAttr, hr4.one.2.1]
   exact hq3 _ v4 v' _ _ rfl rfl rfl rfl rfl hr4
  ·have hq3 := hq2 (by omega)
   rw [if_neg c2] at hq3
   simp only [push_cast, simprocAttr, hb6, hal, c, c2]
   refine hr.appT l.length ht fun v' h' hr3 => ?_
   have hb3 := hr3.get (upd_same _ _ _)
   simp only [push_cast, simprocAttr, hr3.one.1, hb3]
   refine hr3.appL _ hl fun v4 h4 hr4 => ?_
   simp only [push_cast, simprocAttr, hr4.one.2.1]
   exact hq3 _ v4 v' _ _ rfl rfl rfl rfl rfl hr4
end Go.Ab
end
section
namespace Go.Ab
open Go.Proofs
variable {G : Glo} {h : Heap}
theorem foldF_stands {l : List IOp} {o : IOp} (h3 : o.code = 3) (hnc : (isCN l o.a && isCN l o.b) = false) : (0 ≤ standsN l (plF o.imm.toNat) o.a o.b → (foldF l o).1 = standsN l (plF o.imm.toNat) o.a o.b) ∧ (standsN l (plF o.imm.toNat) o.a o.b < 0 → (foldF l o).1 < 0 ∧ (foldF l o).2 = if standsN l (plF o.imm.toNat) o.a o.b = -2 then IOp.num 0 else o) := by
 have hF : foldF l o = if 0 ≤ stdN l (plF o.imm.toNat) o.a o.b then (stdN l (plF o.imm.toNat) o.a o.b, o) else if nothN l (plF o.imm.toNat) o.a o.b then (-1, IOp.num 0) else (-1, o) := by
  unfold foldF
  rw [if_neg (fun h => h h3), hnc]
  rfl
 rw [hF]
 unfold standsN
 by_cases c : 0 ≤ stdN l (plF o.imm.toNat) o.a o.b
 ·rw [if_pos c, if_pos c]
  exact ⟨fun _ => rfl, fun h => by omega⟩
 ·rw [if_neg c, if_neg c]
  by_cases c2 : nothN l (plF o.imm.toNat) o.a o.b = true
  ·rw [if_pos c2, if_pos c2]
   exact ⟨fun h => by omega, fun _ => ⟨by simp, by simp⟩⟩
  ·rw [if_neg c2, if_neg c2]
   exact ⟨fun h => by omega, fun _ => ⟨by simp, by simp⟩⟩
theorem rfold_mid {g H : Heap} {vl vt : AV} {l : List IOp} {to : List Int} {b6 b2 : Nat} {o : IOp} {u w : AV} {Q : Exit → Env → Heap → Prop} (hr : TwoO (Ab.upd g b6 ⟨o.cells, 0⟩) vl l vt to H) (hl : l.length + 1 ≤ 1000000000000) (ht : to.length + 1 ≤ 1000000000000)
  (hk : o.code = 3 → reckonsN o.imm.toNat = true ∧ (0 ≤ o.a ∧ o.a < l.length) ∧ 0 ≤ o.b ∧ o.b < l.length)
  (hq1 : 0 ≤ (foldF l o).1 → ∀ ρ vt' x H', lk ρ 1 = u → lk ρ 2 = .ptr b2 0 → lk ρ 3 = vl → lk ρ 4 = vt' → lk ρ 5 = w → TwoO (Ab.upd g b6 x) vl l vt' (to ++ [(foldF l o).1]) H' → Q (.exit 1) ρ H')
  (hq2 : (foldF l o).1 < 0 → ∀ ρ vl' vt' x H', lk ρ 1 = u → lk ρ 2 = .ptr b2 0 → lk ρ 3 = vl' → lk ρ 4 = vt' → lk ρ 5 = w → TwoO (Ab.upd g b6 x) vl' (l ++ [(foldF l o).2]) vt' (to ++ [(l.length : Int)]) H' → Q .normal ρ H') :
  wpc Tryz.prog G Tryz.f40.ntmps C40_31 Q [(1, u), (2, .ptr b2 0), (3, vl), (4, vt), (5, w), (6, .ptr b6 0), (7, .int .i64 (-1))] H := by
 have T := fun (o' : IOp) (vv : Int) (H' : Heap) hr' a1 a2 => rfold_tail (G := G) (b2 := b2) (u := u) (w := w) (o := o') (vv := vv) (H := H') (g := g) (vl := vl) (l := l) (vt := vt) (to := to) (b6 := b6) (Q := Q) hr' hl ht a1 a2
 have hb6 := hr.get (upd_same _ _ _)
 have aL := hr.argL
 show wpc _ _ _ (.seq [1, 2, 3, 4, 5, 6, 7] C40_16 C40_30) _ _ _
 generalize C40_30 = Y at T ⊢
 by_cases c3 : o.code = 3
 ·obtain ⟨k1, ⟨a0, a1⟩, b0, b1⟩ := hk c3
  have qa : o.a.toNat < l.length := by omega
  have qb : o.b.toNat < l.length := by omega
  obtain ⟨bl, pre, cap, sp, hv, e2, e3⟩ := hr.lieL (by omega)
  have ga := ops_0 l o.a.toNat
  have gb := ops_0 l o.b.toNat
  have fa := ops_3 l o.a.toNat
  have fb := ops_3 l o.b.toNat
  rw [if_pos qa] at ga fa
  rw [if_pos qb] at gb fb
  have pg : ∀ i : Nat, (pre ++ l.flatMap IOp.cells)[pre.length + i]? = (l.flatMap IOp.cells)[i]? := fun i => by rw [List.getElem?_append_right (by omega), Nat.add_sub_cancel_left]
  by_cases cA : isCN l o.a = true
  ·by_cases cB : isCN l o.b = true
   ·have hF : foldF l o = (-1, IOp.num (reckN o.imm.toNat (l.getD o.a.toNat IOp.zero).imm (l.getD o.b.toNat IOp.zero).imm)) := by
     unfold foldF; rw [if_neg (by simpa using c3), cA, cB]; rfl
    rw [hF] at hq1 hq2
    have cA' : (l.getD o.a.toNat IOp.zero).code = 2 := of_decide_eq_true cA
    have cB' : (l.getD o.b.toNat IOp.zero).code = 2 := of_decide_eq_true cB
    subst hv
    have kR := fun h : Heap => Reckon_spec (G := G) (h := h) o.imm.toNat (l.getD o.a.toNat IOp.zero).imm (l.getD o.b.toNat IOp.zero).imm k1
    have hr2 := hr.upd (b := b6) (x := ⟨(IOp.num (reckN o.imm.toNat (l.getD o.a.toNat IOp.zero).imm (l.getD o.b.toNat IOp.zero).imm)).cells, 0⟩) (.inr ⟨_, upd_same _ _ _⟩)
    rw [upd_upd] at hr2
    simp only [push_cast, simprocAttr, hb6, e2, c3, a0, a1, b0, b1, cA', cB', pg, ga, gb, fa, fb, Nat.add_assoc]
    refine (kR _).to ?_
    simp only [push_cast, simprocAttr, hb6]
    refine T _ (-1) _ hr2 (fun h => by omega) fun _ ρ vl' vt' x H' l1 l2 l3 l4 l5 hr' => ?_
    exact hq2 (by simp) ρ vl' vt' x H' l1 l2 l3 l4 l5 hr'
   ·have hnc : (isCN l o.a && isCN l o.b) = false := by simp [cB]
    obtain ⟨f1, f2⟩ := foldF_stands c3 hnc
    have kS := borrow_is (rstands_spec (G := G) (h := noH) (plF o.imm.toNat) a0 a1 b0 b1 hnc) (h := H) (.cons aL (.cons (.same _ _) (.cons (.same _ _) (.cons (.same _ _) .nil)))) rfl
    have kP := rplain28_spec (G := G) (h := H) o.imm.toNat
    have cA' : (l.getD o.a.toNat IOp.zero).code = 2 := of_decide_eq_true cA
    have cB' : ¬ (l.getD o.b.toNat IOp.zero).code = 2 := fun e => cB (decide_eq_true e)
    subst hv
    simp only [push_cast, simprocAttr, hb6, e2, c3, a0, a1, b0, b1, cA', cB', pg, ga, gb, fa, fb, Nat.add_assoc]
    refine kP.to ?_
    simp only [push_cast, simprocAttr, hb6]
    refine kS.to ?_
    simp only [push_cast, simprocAttr, hb6]
    refine T _ _ _ hr (fun h ρ vt' H' l1 l2 l3 l4 l5 hr' => ?_) fun h ρ vl' vt' x H' l1 l2 l3 l4 l5 hr' => ?_
    ·rw [← f1 h] at hr'
     exact hq1 (by rw [f1 h]; exact h) ρ vt' _ H' l1 l2 l3 l4 l5 hr'
    ·rw [← (f2 h).2] at hr'
     exact hq2 (f2 h).1 ρ vl' vt' x H' l1 l2 l3 l4 l5 hr'
  ·have hnc : (isCN l o.a && isCN l o.b) = false := by simp [cA]
   obtain ⟨f1, f2⟩ := foldF_stands c3 hnc
   have kS := borrow_is (rstands_spec (G := G) (h := noH) (plF o.imm.toNat) a0 a1 b0 b1 hnc) (h := H) (.cons aL (.cons (.same _ _) (.cons (.same _ _) (.cons (.same _ _) .nil)))) rfl
   have kP := rplain28_spec (G := G) (h := H) o.imm.toNat
   have cA' : ¬ (l.getD o.a.toNat IOp.zero).code = 2 := fun e => cA (decide_eq_true e)
   subst hv
   simp only [push_cast, simprocAttr, hb6, e2, c3, a0, a1, b0, b1, cA', pg, ga, gb, fa, fb, Nat.add_assoc]
   refine kP.to ?_
   simp only [push_cast, simprocAttr, hb6]
   refine kS.to ?_
   simp only [push_cast, simprocAttr, hb6]
   refine T _ _ _ hr (fun h ρ vt' H' l1 l2 l3 l4 l5 hr' => ?_) fun h ρ vl' vt' x H' l1 l2 l3 l4 l5 hr' => ?_
   ·rw [← f1 h] at hr'
    exact hq1 (by rw [f1 h]; exact h) ρ vt' _ H' l1 l2 l3 l4 l5 hr'
   ·rw [← (f2 h).2] at hr'
    exact hq2 (f2 h).1 ρ vl' vt' x H' l1 l2 l3 l4 l5 hr'
 ·have hF : foldF l o = (-1, o) := by unfold foldF; rw [if_pos c3]
  rw [hF] at hq1 hq2
  simp only [push_cast, simprocAttr, hb6, c3]
  refine T _ (-1) _ hr (fun h => by omega) fun _ ρ vl' vt' x H' l1 l2 l3 l4 l5 hr' => ?_
  exact hq2 (by simp) ρ vl' vt' x H' l1 l2 l3 l4 l5 hr'
theorem rfoldDo_spec (b : IBk) (hw : b.wf) (hc : b.check = 0) : Spec Tryz.prog G 40 [.agg b.cells] h (Is (.agg (b.ps foldF).cells) h) := by
 obtain ⟨hops, hexs⟩ := right_parts hc
 obtain ⟨hs1, hs2, hs3⟩ := hw.hs
 refine Spec.is C40ok rfl ?_
 simp only [push_cast, simprocAttr]
 intro b2 hb2 b8 hb8 b9 hb9
 have i1 : Own 6 (Ab.upd h b2 ⟨[.nils, .nils, .nils, .int .i64 0], 0⟩) (.sl b8 0 0 0) [] 0 _ := own_new hb8
 have i2 : Own 1 _ (.sl b9 0 0 0) [] 0 _ := own_new hb9
 refine lpc.rel [1, 2, 3, 4, 5] (fun m ρ h' => ∃ (k : Nat) (vl vt : AV), m = b.ops.length - k ∧ k ≤ b.ops.length ∧ TwoO (Ab.upd h b2 ⟨[.nils, .nils, .nils, .int .i64 0], 0⟩) vl (psN foldF (b.ops.take k)).l vt (psN foldF (b.ops.take k)).to h' ∧
  ρ = [(1, .cp b.cells 0), (2, .ptr b2 0), (3, vl), (4, vt), (5, .int .i64 (k : Int))]) ⟨_, 0, _, _, rfl, by omega, ⟨_, i1, i2⟩, rfl⟩ ?_
 rintro m _ h2 ⟨k, vl, vt, rfl, hk, hr, rfl⟩
 by_cases hk2 : k < b.ops.length
 ·have hst := psstep_eq foldF (psN foldF (b.ops.take k)) (b.ops.getD k IOp.zero)
  rw [← psN_succ foldF b.ops k hk2] at hst
  have htl : (psN foldF (b.ops.take k)).to.length = k := by rw [psN_to, List.length_take]; omega
  have hll := psN_l foldF (b.ops.take k)
  rw [List.length_take] at hll
  have hok := renOK_of (hops k hk2) htl
  have h6 := code_le6 (hops k hk2)
  have HK := fun e3 => ps_hk fold_ok hc hk2 e3
  generalize psN foldF (b.ops.take k) = f at *
  generalize hO : b.ops.getD k IOp.zero = o at *
  have kN := borrow_agg (rnames_spec (G := G) (h := noH) f.to o hok h6) (h := h2) (.cons (.same _ _) (.cons hr.argT .nil)) rfl
  have M := fun b6 (hb6 : h2 b6 = none) Q (H : Heap) (hH : H = Ab.upd h2 b6 ⟨(ren f.to o).cells, 0⟩) hq1 hq2 => rfold_mid (G := G) (b2 := b2) (b6 := b6) (u := .cp b.cells 0) (w := .int .i64 (k : Int)) (Q := Q) (hr.upd (x := ⟨(ren f.to o).cells, 0⟩) (.inl hb6)) (by omega) (by omega) (fun e3 => by rw [(ren_xy _ _).2.2]; exact HK (by rw [ren_code] at e3; exact e3)) hq1 hq2
  have g2 : ∀ b6, h2 b6 = none → Ab.upd h b2 ⟨[.nils, .nils, .nils, .int .i64 0], 0⟩ b6 = none := fun b6 h => hr.none h
  show wpc _ _ _ (.seq [1, 2, 3, 4, 5] C40_6 (.seq [1, 2, 3, 4, 5] (.block 1 (.seq [1, 2, 3, 4, 5, 6] C40_7 (.seq [1, 2, 3, 4, 5, 6, 7] C40_8 C40_31))) C40_35)) _ _ _
  generalize C40_31 = Y at M ⊢
  simp only [push_cast, simprocAttr, hk2, hO]
  refine kN.to ?_
  simp only [push_cast, simprocAttr]
  intro b6 hb6
  refine M b6 hb6 _ _ rfl (fun h0 ρ vt' x H' l1 l2 l3 l4 l5 hr' => ?_) fun h0 ρ vl' vt' x H' l1 l2 l3 l4 l5 hr' => ?_
  ·obtain ⟨H1, s1, hr2⟩ := hr'.drop (g2 b6 hb6)
   simp (disch := omega) only [push_cast, simprocAttr, wrap_i64, toNat_ofInt64, Nat.min_eq_left, Int.toNat_of_nonneg, l1, l2, l3, l4, l5]
   exact ⟨_, H1, by omega, s1, k + 1, vl, vt', rfl, by omega, by rw [hst, if_pos h0, if_pos h0]; exact hr2, rfl⟩
  ·obtain ⟨H1, s1, hr2⟩ := hr'.drop (g2 b6 hb6)
   simp (disch := omega) only [push_cast, simprocAttr, wrap_i64, toNat_ofInt64, Nat.min_eq_left, Int.toNat_of_nonneg, l1, l2, l3, l4, l5]
   exact ⟨_, H1, by omega, s1, k + 1, vl', vt', rfl, by omega, by rw [hst, if_neg (by omega), if_neg (by omega)]; exact hr2, rfl⟩
 ·obtain rfl : k = b.ops.length := by omega
  rw [List.take_length] at hr
  have htl := psN_to foldF b.ops
  have hps : b.ps foldF = ⟨b.pcs, (psN foldF b.ops).l, b.exits.map (renE (psN foldF b.ops).to), b.last⟩ := rfl
  rw [hps]
  generalize psN foldF b.ops = f at *
  have kE := fun h : Heap => rExits_spec (G := G) (h := h) b.exits f.to (fun k hk => exOK_of (hexs k hk) htl) hs2 (fun k hk => getD_map (n := k) hs3)
  simp only [push_cast, simprocAttr, hk2]
  refine hr.freeze fun h1 o1 => ?_
  simp only [push_cast, simprocAttr]
  refine wkQ.own o1 ?_
  simp only [push_cast, simprocAttr]
  refine (kE _).to ?_
  simp only [push_cast, simprocAttr]
  exact ⟨rfl, sub_upd hb2 (.refl _)⟩
end Go.Ab
end
section
namespace Go.Ab
open Go.Proofs
variable {G : Glo} {h : Heap}
theorem ralike_spec (a b : IOp) : Spec Tryz.prog G 116 [.agg a.cells, .agg b.cells] h (Is (.bool (alikeN a b)) h) := by
  have kA := rplain28_spec (G := G) (h := h) a.imm.toNat
  have kB := rplain28_spec (G := G) (h := h) b.imm.toNat
  have kT := rturns_spec (G := G) (h := h) (plF (a.imm.toNat : Int))
  have hI : ((a.imm.toNat : Int) == (b.imm.toNat : Int)) = decide (a.imm = b.imm) := by
    rw [Bool.eq_iff_iff, beq_iff_eq, decide_eq_true_eq]
    exact ⟨fun e => BitVec.eq_of_toNat_eq (by omega), fun e => by rw [e]⟩
  unfold alikeN
  by_cases c0 : a.code = b.code
  · rw [if_neg (by simpa using c0)]
    have c0' : (a.code != b.code) = false := by simpa using c0
    by_cases c12 : a.code = 1 ∨ a.code = 2
    · rw [if_pos c12]
      refine Spec.is C116ok rfl ?_
      rcases c12 with c | c
      · have c' : b.code = 1 := by omega
        simp only [push_cast, simprocAttr, c, c', hI]
      · have c' : b.code = 2 := by omega
        simp only [push_cast, simprocAttr, c, c', hI]
    · rw [if_neg c12]
      have c2 : ¬ a.code ≤ 2 ∨ a.code < 1 := by omega
      by_cases c4 : a.code = 4
      · rw [if_pos c4]
        have c4' : b.code = 4 := by omega
        refine Spec.is C116ok rfl ?_
        by_cases e : a.imm = b.imm
        · simp only [push_cast, simprocAttr, c4, c4', hI, e, decide_true, Bool.true_and]
          try rfl
        · have e' : decide (a.imm = b.imm) = false := decide_eq_false e
          simp only [push_cast, simprocAttr, c4, c4', hI, e']
          try simp
      · rw [if_neg c4]
        by_cases c3 : a.code = 3
        · rw [if_pos c3]
          have c3' : b.code = 3 := by omega
          generalize plF (a.imm.toNat : Int) = pa at *
          generalize plF (b.imm.toNat : Int) = pb at *
          generalize turN pa = tu at *
          refine Spec.is C116ok rfl ?_
          simp only [push_cast, simprocAttr, c3, c3']
          refine kA.to ?_
          simp only [push_cast, simprocAttr, c3, c3']
          refine kB.to ?_
          by_cases e5 : pa = pb
          · have e5' : (pa != pb) = false := by simpa using e5
            rw [decide_eq_true e5, Bool.true_and]
            have e1 : (a.a == b.a) = decide (a.a = b.a) := rfl
            have e2 : (a.b == b.b) = decide (a.b = b.b) := rfl
            have e3 : (a.a == b.b) = decide (a.a = b.b) := rfl
            have e4 : (a.b == b.a) = decide (a.b = b.a) := rfl
            generalize decide (a.a = b.a) = x1 at *
            generalize decide (a.b = b.b) = x2 at *
            generalize decide (a.a = b.b) = x3 at *
            generalize decide (a.b = b.a) = x4 at *
            cases x1 <;> cases x2 <;>
            · simp only [push_cast, simprocAttr, e5', e1, e2]
              try first
                | rfl
                | (refine kT.to ?_
                   cases tu with
                   | false => simp only [push_cast, simprocAttr]; try rfl
                   | true => cases x3 with
                     | false => simp only [push_cast, simprocAttr, e3]; try rfl
                     | true => simp only [push_cast, simprocAttr, e3, e4]; try rfl)
          · have e5' : (pa != pb) = true := by simpa using e5
            rw [decide_eq_false e5, Bool.false_and]
            simp only [push_cast, simprocAttr, e5']
        · rw [if_neg c3]
          refine Spec.is C116ok rfl ?_
          by_cases c1 : a.code < 1
          · simp only [push_cast, simprocAttr, c0', c1]
          · have c5 : a.code > 4 := by omega
            simp only [push_cast, simprocAttr, c0', c1, c5]
  · rw [if_pos (by simpa using c0)]
    have c0' : (a.code != b.code) = true := by simpa using c0
    refine Spec.is C116ok rfl ?_
    simp only [push_cast, simprocAttr, c0']
theorem rfind_spec (l : List IOp) (o : IOp) (hl : l.length ≤ 1000000000000) : Spec Tryz.prog G 80 [ops l, .agg o.cells] h (Is (.int .i64 (findN l o)) h) := by
 have hN : findN l o = findT l o l.length := rfl
 have hlo : ∀ n, -1 ≤ findT l o n := fun n => by
  induction n with
  | zero => simp [findT]
  | succ n ih => rw [findT]; (repeat' split) <;> omega
 rw [hN]
 refine Spec.is C80ok rfl ?_
 simp only [push_cast, simprocAttr]
 refine lpc.rel [0, 3, 5, 6] (fun m ρ h' => ∃ k : Nat, m = l.length - k ∧ k ≤ l.length ∧ h = h' ∧ ρ = [(0, ops l), (3, .cp o.cells 0), (5, .int .i64 (findT l o k)), (6, .int .i64 (k : Int))]) ⟨_, 0, rfl, by omega, rfl, rfl⟩ ?_
 rintro m _ _ ⟨k, rfl, hk, rfl, rfl⟩
 by_cases hk2 : k < l.length
 ·have kA := ralike_spec (G := G) (h := h) (l.getD k IOp.zero) o
  have hs : findT l o (k + 1) = if (l.getD k IOp.zero).code = 5 ∧ o.code = 4 then -1 else if findT l o k < 0 ∧ alikeN (l.getD k IOp.zero) o = true then (k : Int) else findT l o k := rfl
  have hlk := hlo k
  have g0 := ops_0 l k
  rw [if_pos hk2] at g0
  generalize alikeN (l.getD k IOp.zero) o = al at *
  generalize findT l o k = F at *
  by_cases c5 : (l.getD k IOp.zero).code = 5 ∧ o.code = 4
  ·rw [if_pos c5] at hs
   by_cases c : F < 0
   ·cases al <;>
    ·simp only [push_cast, simprocAttr, hk2, c]
     refine kA.to ?_
     simp (disch := omega) only [push_cast, simprocAttr, wrap_i64, toNat_ofInt64, Nat.min_eq_left, Int.toNat_of_nonneg, hk2, c5.1, c5.2, g0]
     (try intro _)
     exact ⟨_, _, by omega, .refl _, k + 1, rfl, by omega, rfl, by rw [hs]; rfl⟩
   ·simp (disch := omega) only [push_cast, simprocAttr, wrap_i64, toNat_ofInt64, Nat.min_eq_left, Int.toNat_of_nonneg, hk2, c, c5.1, c5.2, g0]
    exact ⟨_, _, by omega, .refl _, k + 1, rfl, by omega, rfl, by rw [hs]; rfl⟩
  ·rw [if_neg c5] at hs
   have c5' : ((l.getD k IOp.zero).code = 5 → ¬ o.code = 4) := fun a b => c5 ⟨a, b⟩
   by_cases c : F < 0
   ·cases al with
    | false =>
     rw [if_neg (by simp)] at hs
     by_cases q : (l.getD k IOp.zero).code = 5
     ·have q4 := c5' q
      simp only [push_cast, simprocAttr, hk2, c]
      refine kA.to ?_
      simp (disch := omega) only [push_cast, simprocAttr, wrap_i64, toNat_ofInt64, Nat.min_eq_left, Int.toNat_of_nonneg, hk2, q, q4, g0]
      (try intro _)
      exact ⟨_, _, by omega, .refl _, k + 1, rfl, by omega, rfl, by rw [hs]; rfl⟩
     ·simp only [push_cast, simprocAttr, hk2, c]
      refine kA.to ?_
      simp (disch := omega) only [push_cast, simprocAttr, wrap_i64, toNat_ofInt64, Nat.min_eq_left, Int.toNat_of_nonneg, hk2, q, g0]
      (try intro _)
      exact ⟨_, _, by omega, .refl _, k + 1, rfl, by omega, rfl, by rw [hs]; rfl⟩
    | true =>
     rw [if_pos ⟨c, rfl⟩] at hs
     by_cases q : (l.getD k IOp.zero).code = 5
     ·have q4 := c5' q
      simp only [push_cast, simprocAttr, hk2, c]
      refine kA.to ?_
      simp (disch := omega) only [push_cast, simprocAttr, wrap_i64, toNat_ofInt64, Nat.min_eq_left, Int.toNat_of_nonneg, hk2, q, q4, g0]
      (try intro _)
      exact ⟨_, _, by omega, .refl _, k + 1, rfl, by omega, rfl, by rw [hs]; rfl⟩
     ·simp only [push_cast, simprocAttr, hk2, c]
      refine kA.to ?_
      simp (disch := omega) only [push_cast, simprocAttr, wrap_i64, toNat_ofInt64, Nat.min_eq_left, Int.toNat_of_nonneg, hk2, q, g0]
      (try intro _)
      exact ⟨_, _, by omega, .refl _, k + 1, rfl, by omega, rfl, by rw [hs]; rfl⟩
   ·rw [if_neg (fun h => c h.1)] at hs
    by_cases q : (l.getD k IOp.zero).code = 5
    ·have q4 := c5' q
     simp (disch := omega) only [push_cast, simprocAttr, wrap_i64, toNat_ofInt64, Nat.min_eq_left, Int.toNat_of_nonneg, hk2, c, q, q4, g0]
     (try intro _)
     exact ⟨_, _, by omega, .refl _, k + 1, rfl, by omega, rfl, by rw [hs]; rfl⟩
    ·simp (disch := omega) only [push_cast, simprocAttr, wrap_i64, toNat_ofInt64, Nat.min_eq_left, Int.toNat_of_nonneg, hk2, c, q, g0]
     (try intro _)
     exact ⟨_, _, by omega, .refl _, k + 1, rfl, by omega, rfl, by rw [hs]; rfl⟩
 ·obtain rfl : k = l.length := by omega
  simp only [push_cast, simprocAttr, hk2]
theorem rknown42_spec (l : List IOp) (o : IOp) (hl : l.length ≤ 1000000000000) : Spec Tryz.prog G 58 [ops l, .agg o.cells] h (Is (.int .i64 (knownN l (lastS l) o)) h) := by
 have hN : lastS l = lastT l l.length := rfl
 rw [hN]
 refine Spec.is C58ok rfl ?_
 simp only [push_cast, simprocAttr]
 refine lpc.rel [0, 3, 5, 6] (fun m ρ h' => ∃ k : Nat, m = l.length - k ∧ k ≤ l.length ∧ h = h' ∧ ρ = [(0, ops l), (3, .cp o.cells 0), (5, .int .i64 (knownN l (lastT l k) o)), (6, .int .i64 (k : Int))]) ⟨_, 0, rfl, by omega, rfl, by simp [lastT, knownN]; rfl⟩ ?_
 rintro m _ _ ⟨k, rfl, hk, rfl, rfl⟩
 by_cases hk2 : k < l.length
 ·have hs : lastT l (k + 1) = if (l.getD k IOp.zero).code = 5 then (k : Int) else lastT l k := rfl
  have g0 := ops_0 l k
  have g1 := ops_1 l k
  have g2 := ops_2 l k
  have g3 := ops_3 l k
  rw [if_pos hk2] at g0 g1 g2 g3
  by_cases c5 : (l.getD k IOp.zero).code = 5
  ·rw [if_pos c5] at hs
   have hv : knownN l (k : Int) o = if o.code = 4 ∧ o.imm.toNat = 13 ∧ (l.getD k IOp.zero).imm.toNat = 18 ∧ (l.getD k IOp.zero).a = o.a then (l.getD k IOp.zero).b else -1 := by
    unfold knownN
    simp only [Int.toNat_natCast]
    by_cases d1 : o.code = 4
    ·by_cases d2 : o.imm.toNat = 13
     ·rw [if_neg (by omega)]
      by_cases d3 : (l.getD k IOp.zero).imm.toNat = 18
      ·by_cases d4 : (l.getD k IOp.zero).a = o.a
       ·rw [if_neg (by omega), if_pos ⟨d1, d2, d3, d4⟩]
       ·rw [if_pos (.inr d4), if_neg (fun h => d4 h.2.2.2)]
      ·rw [if_pos (.inl d3), if_neg (fun h => d3 h.2.2.1)]
     ·rw [if_pos (.inr (.inl d2)), if_neg (fun h => d2 h.2.1)]
    ·rw [if_pos (.inl d1), if_neg (fun h => d1 h.1)]
   have b5 : ((l.getD k IOp.zero).code == 5) = true := by simpa using c5
   have e3 : (((l.getD k IOp.zero).imm.toNat : Int) == 18) = _ := num32 (l.getD k IOp.zero).imm 18 (by omega)
   have e1 : ((o.imm.toNat : Int) == 13) = _ := num32 o.imm 13 (by omega)
   have e4 : ((l.getD k IOp.zero).a == o.a) = decide ((l.getD k IOp.zero).a = o.a) := rfl
   have e0 : (o.code == 4) = decide (o.code = 4) := rfl
   by_cases d3 : (l.getD k IOp.zero).imm.toNat = 18
   ·rw [decide_eq_true d3] at e3
    by_cases d4 : (l.getD k IOp.zero).a = o.a
    ·rw [decide_eq_true d4] at e4
     by_cases d0 : o.code = 4
     ·rw [decide_eq_true d0] at e0
      by_cases d1 : o.imm.toNat = 13
      ·rw [decide_eq_true d1] at e1
       simp (disch := omega) only [push_cast, simprocAttr, wrap_i64, toNat_ofInt64, Nat.min_eq_left, Int.toNat_of_nonneg, hk2, b5, g0, g1, g2, g3, e3, e4, e0, e1]
       exact ⟨_, _, by omega, .refl _, k + 1, rfl, by omega, rfl, by rw [hs, hv, if_pos ⟨d0, d1, d3, d4⟩]; rfl⟩
      ·rw [decide_eq_false d1] at e1
       simp (disch := omega) only [push_cast, simprocAttr, wrap_i64, toNat_ofInt64, Nat.min_eq_left, Int.toNat_of_nonneg, hk2, b5, g0, g1, g2, g3, e3, e4, e0, e1]
       exact ⟨_, _, by omega, .refl _, k + 1, rfl, by omega, rfl, by rw [hs, hv, if_neg (fun h => d1 h.2.1)]; rfl⟩
     ·rw [decide_eq_false d0] at e0
      simp (disch := omega) only [push_cast, simprocAttr, wrap_i64, toNat_ofInt64, Nat.min_eq_left, Int.toNat_of_nonneg, hk2, b5, g0, g1, g2, g3, e3, e4, e0]
      exact ⟨_, _, by omega, .refl _, k + 1, rfl, by omega, rfl, by rw [hs, hv, if_neg (fun h => d0 h.1)]; rfl⟩
    ·rw [decide_eq_false d4] at e4
     simp (disch := omega) only [push_cast, simprocAttr, wrap_i64, toNat_ofInt64, Nat.min_eq_left, Int.toNat_of_nonneg, hk2, b5, g0, g1, g2, g3, e3, e4]
     exact ⟨_, _, by omega, .refl _, k + 1, rfl, by omega, rfl, by rw [hs, hv, if_neg (fun h => d4 h.2.2.2)]; rfl⟩
   ·rw [decide_eq_false d3] at e3
    simp (disch := omega) only [push_cast, simprocAttr, wrap_i64, toNat_ofInt64, Nat.min_eq_left, Int.toNat_of_nonneg, hk2, b5, g0, g1, g2, g3, e3]
    exact ⟨_, _, by omega, .refl _, k + 1, rfl, by omega, rfl, by rw [hs, hv, if_neg (fun h => d3 h.2.2.1)]; rfl⟩
  ·rw [if_neg c5] at hs
   have b5 : ((l.getD k IOp.zero).code == 5) = false := by simpa using c5
   simp (disch := omega) only [push_cast, simprocAttr, wrap_i64, toNat_ofInt64, Nat.min_eq_left, Int.toNat_of_nonneg, hk2, c5, b5, g0, g1, g2, g3]
   exact ⟨_, _, by omega, .refl _, k + 1, rfl, by omega, rfl, by rw [hs]; rfl⟩
 ·obtain rfl : k = l.length := by omega
  simp only [push_cast, simprocAttr, hk2]
end Go.Ab
end
section
namespace Go.Ab
open Go.Proofs
variable {G : Glo} {h : Heap}
theorem rnum_mid {g H : Heap} {vl vt : AV} {l : List IOp} {to : List Int} {b6 b2 : Nat} {o : IOp} {u w : AV} {Q : Exit → Env → Heap → Prop} (hr : TwoO (Ab.upd g b6 ⟨o.cells, 0⟩) vl l vt to H) (hl : l.length + 1 ≤ 1000000000000) (ht : to.length + 1 ≤ 1000000000000)
  (hq1 : 0 ≤ (numF l o).1 → ∀ ρ vt' x H', lk ρ 1 = u → lk ρ 2 = .ptr b2 0 → lk ρ 3 = vl → lk ρ 4 = vt' → lk ρ 5 = w → TwoO (Ab.upd g b6 x) vl l vt' (to ++ [(numF l o).1]) H' → Q (.exit 1) ρ H')
  (hq2 : (numF l o).1 < 0 → ∀ ρ vl' vt' x H', lk ρ 1 = u → lk ρ 2 = .ptr b2 0 → lk ρ 3 = vl' → lk ρ 4 = vt' → lk ρ 5 = w → TwoO (Ab.upd g b6 x) vl' (l ++ [(numF l o).2]) vt' (to ++ [(l.length : Int)]) H' → Q .normal ρ H') :
  wpc Tryz.prog G Tryz.f41.ntmps C41_26 Q [(1, u), (2, .ptr b2 0), (3, vl), (4, vt), (5, w), (6, .ptr b6 0)] H := by
 have hb6 := hr.get (upd_same _ _ _)
 have kF := borrow_is (rfind_spec (G := G) (h := noH) l o (by omega)) (h := H) (.cons hr.argL (.cons (.same _ _) .nil)) rfl
 have hF : numF l o = (findN l o, o) := rfl
 rw [hF] at hq1 hq2
 generalize findN l o = vv at *
 simp only [push_cast, simprocAttr, hb6]
 refine kF.to ?_
 by_cases c : vv ≥ 0
 ·simp only [push_cast, simprocAttr, c]
  refine hr.appT vv ht fun v' h' hr' => ?_
  simp only [push_cast, simprocAttr, hr'.one.1]
  exact hq1 c _ v' _ _ rfl rfl rfl rfl rfl hr'
 ·have hal := hr.one.2.2
  simp only [push_cast, simprocAttr, hb6, hal, c]
  refine hr.appT l.length ht fun v' h' hr3 => ?_
  have hb3 := hr3.get (upd_same _ _ _)
  simp only [push_cast, simprocAttr, hr3.one.1, hb3]
  refine hr3.appL _ hl fun v4 h4 hr4 => ?_
  simp only [push_cast, simprocAttr, hr4.one.2.1]
  exact hq2 (by simp only; omega) _ v4 v' _ _ rfl rfl rfl rfl rfl hr4
theorem rnum_head {g h2 : Heap} {vl vt : AV} {l : List IOp} {to : List Int} {b6 b2 : Nat} {o : IOp} {u w : AV} {Q : Exit → Env → Heap → Prop} (hr : TwoO g vl l vt to h2) (hb6 : h2 b6 = none) (hR : renOK to o) (h6 : o.code ≤ 6)
  (T : ∀ H, H = Ab.upd h2 b6 ⟨(ren to o).cells, 0⟩ → wpc Tryz.prog G Tryz.f41.ntmps C41_26 Q [(1, u), (2, .ptr b2 0), (3, vl), (4, vt), (5, w), (6, .ptr b6 0)] H) :
  wpc Tryz.prog G Tryz.f41.ntmps C41_28 Q [(1, u), (2, .ptr b2 0), (3, vl), (4, vt), (5, w), (6, .ptr b6 0)] (Ab.upd h2 b6 ⟨o.cells, 0⟩) := by
 obtain ⟨hR1, hR2⟩ := hR
 show wpc _ _ _ (.seq [1, 2, 3, 4, 5, 6] C41_11 (.seq [1, 2, 3, 4, 5, 6] C41_15 C41_26)) _ _ _
 generalize C41_26 = Y at T ⊢
 by_cases g3 : o.code = 3 ∨ o.code = 5 ∨ o.code = 6
 ·obtain ⟨⟨q1, q2⟩, q3, q4⟩ := hR1 g3
  obtain ⟨bt, pre, cap, sp, rfl, e2, e3⟩ := hr.lieT (by omega)
  have f5 : ¬ bt = b6 := fun e => by rw [← e, e2] at hb6; cases hb6
  have q5 : o.a.toNat < to.length := by omega
  have q6 : o.b.toNat < to.length := by omega
  rcases g3 with g | g | g <;>
  ·simp (disch := omega) only [push_cast, simprocAttr, wrap_i64, toNat_ofInt64, Nat.min_eq_left, Int.toNat_of_nonneg, upd_at, f5, e2, q1, q2, q3, q4, q5, q6, g]
   rw [show ren to o = ⟨o.code, to.getD o.a.toNat 0, to.getD o.b.toNat 0, o.imm, o.x, o.y⟩ from by unfold ren; rw [if_pos (by omega)], g] at T
   exact T _ rfl
 ·by_cases g4 : o.code = 4
  ·obtain ⟨q1, q2⟩ := hR2 g4
   obtain ⟨bt, pre, cap, sp, rfl, e2, e3⟩ := hr.lieT (by omega)
   have f5 : ¬ bt = b6 := fun e => by rw [← e, e2] at hb6; cases hb6
   have q5 : o.a.toNat < to.length := by omega
   simp (disch := omega) only [push_cast, simprocAttr, wrap_i64, toNat_ofInt64, Nat.min_eq_left, Int.toNat_of_nonneg, upd_at, f5, e2, q1, q2, q5, g4]
   rw [show ren to o = ⟨o.code, to.getD o.a.toNat 0, o.b, o.imm, o.x, o.y⟩ from by unfold ren; rw [if_neg g3, if_pos g4], g4] at T
   exact T _ rfl
  ·have g5 : ¬ o.code = 3 := by omega
   have g6 : ¬ o.code ≥ 3 := by omega
   have g7 : ¬ o.code ≥ 5 := by omega
   simp (disch := omega) only [push_cast, simprocAttr, wrap_i64, toNat_ofInt64, Nat.min_eq_left, Int.toNat_of_nonneg, g4, g5, g6, g7]
   rw [show ren to o = o from by unfold ren; rw [if_neg g3, if_neg g4]] at T
   exact T _ rfl
theorem rnum_spec (b : IBk) (hw : b.wf) (hc : b.check = 0) : Spec Tryz.prog G 41 [.agg b.cells] h (Is (.agg (b.ps numF).cells) h) := by
 obtain ⟨hops, hexs⟩ := right_parts hc
 obtain ⟨hs1, hs2, hs3⟩ := hw.hs
 refine Spec.is C41ok rfl ?_
 simp only [push_cast, simprocAttr]
 intro b2 hb2 b8 hb8 b9 hb9
 have i1 : Own 6 (Ab.upd h b2 ⟨[.nils, .nils, .nils, .int .i64 0], 0⟩) (.sl b8 0 0 0) [] 0 _ := own_new hb8
 have i2 : Own 1 _ (.sl b9 0 0 0) [] 0 _ := own_new hb9
 refine lpc.rel [1, 2, 3, 4, 5] (fun m ρ h' => ∃ (k : Nat) (vl vt : AV), m = b.ops.length - k ∧ k ≤ b.ops.length ∧ TwoO (Ab.upd h b2 ⟨[.nils, .nils, .nils, .int .i64 0], 0⟩) vl (psN numF (b.ops.take k)).l vt (psN numF (b.ops.take k)).to h' ∧
  ρ = [(1, .cp b.cells 0), (2, .ptr b2 0), (3, vl), (4, vt), (5, .int .i64 (k : Int))]) ⟨_, 0, _, _, rfl, by omega, ⟨_, i1, i2⟩, rfl⟩ ?_
 rintro m _ h2 ⟨k, vl, vt, rfl, hk, hr, rfl⟩
 by_cases hk2 : k < b.ops.length
 ·have hst := psstep_eq numF (psN numF (b.ops.take k)) (b.ops.getD k IOp.zero)
  rw [← psN_succ numF b.ops k hk2] at hst
  have htl : (psN numF (b.ops.take k)).to.length = k := by rw [psN_to, List.length_take]; omega
  have hll := psN_l numF (b.ops.take k)
  rw [List.length_take] at hll
  have hok := renOK_of (hops k hk2) htl
  have h6 := code_le6 (hops k hk2)
  generalize psN numF (b.ops.take k) = f at *
  generalize hO : b.ops.getD k IOp.zero = o at *
  have M := fun b6 (hb6 : h2 b6 = none) Q hq1 hq2 => rnum_head (G := G) (b2 := b2) (b6 := b6) (u := .cp b.cells 0) (w := .int .i64 (k : Int)) (Q := Q) hr hb6 hok h6 fun H hH => by
   subst hH
   exact rnum_mid (hr.upd (x := ⟨(ren f.to o).cells, 0⟩) (.inl hb6)) (by omega) (by omega) hq1 hq2
  have g2 : ∀ b6, h2 b6 = none → Ab.upd h b2 ⟨[.nils, .nils, .nils, .int .i64 0], 0⟩ b6 = none := fun b6 h => hr.none h
  show wpc _ _ _ (.seq [1, 2, 3, 4, 5] C41_6 (.seq [1, 2, 3, 4, 5] (.block 1 (.seq [1, 2, 3, 4, 5, 6] C41_7 C41_28)) C41_31)) _ _ _
  generalize C41_28 = Y at M ⊢
  simp only [push_cast, simprocAttr, hk2, hO]
  intro b6 hb6
  refine M b6 hb6 _ (fun h0 ρ vt' x H' l1 l2 l3 l4 l5 hr' => ?_) fun h0 ρ vl' vt' x H' l1 l2 l3 l4 l5 hr' => ?_
  ·obtain ⟨H1, s1, hr2⟩ := hr'.drop (g2 b6 hb6)
   simp (disch := omega) only [push_cast, simprocAttr, wrap_i64, toNat_ofInt64, Nat.min_eq_left, Int.toNat_of_nonneg, l1, l2, l3, l4, l5]
   exact ⟨_, H1, by omega, s1, k + 1, vl, vt', rfl, by omega, by rw [hst, if_pos h0, if_pos h0]; exact hr2, rfl⟩
  ·obtain ⟨H1, s1, hr2⟩ := hr'.drop (g2 b6 hb6)
   simp (disch := omega) only [push_cast, simprocAttr, wrap_i64, toNat_ofInt64, Nat.min_eq_left, Int.toNat_of_nonneg, l1, l2, l3, l4, l5]
   exact ⟨_, H1, by omega, s1, k + 1, vl', vt', rfl, by omega, by rw [hst, if_neg (by omega), if_neg (by omega)]; exact hr2, rfl⟩
 ·obtain rfl : k = b.ops.length := by omega
  rw [List.take_length] at hr
  have htl := psN_to numF b.ops
  have hps : b.ps numF = ⟨b.pcs, (psN numF b.ops).l, b.exits.map (renE (psN numF b.ops).to), b.last⟩ := rfl
  rw [hps]
  generalize psN numF b.ops = f at *
  have kE := fun h : Heap => rExits_spec (G := G) (h := h) b.exits f.to (fun k hk => exOK_of (hexs k hk) htl) hs2 (fun k hk => getD_map (n := k) hs3)
  simp only [push_cast, simprocAttr, hk2]
  refine hr.freeze fun h1 o1 => ?_
  simp only [push_cast, simprocAttr]
  refine wkQ.own o1 ?_
  simp only [push_cast, simprocAttr]
  refine (kE _).to ?_
  simp only [push_cast, simprocAttr]
  exact ⟨rfl, sub_upd hb2 (.refl _)⟩
end Go.Ab
end
section
namespace Go.Ab
open Go.Proofs
variable {G : Glo} {h : Heap}
theorem rfwd_mid {g H : Heap} {vl vt : AV} {l : List IOp} {to : List Int} {b6 b2 : Nat} {o : IOp} {u w : AV} {Q : Exit → Env → Heap → Prop} (hr : TwoO (Ab.upd g b6 ⟨o.cells, 0⟩) vl l vt to H) (hl : l.length + 1 ≤ 1000000000000) (ht : to.length + 1 ≤ 1000000000000)
  (hq1 : 0 ≤ (fwF l o).1 → ∀ ρ vt' x H', lk ρ 1 = u → lk ρ 2 = .ptr b2 0 → lk ρ 3 = vl → lk ρ 4 = vt' → lk ρ 5 = w → TwoO (Ab.upd g b6 x) vl l vt' (to ++ [(fwF l o).1]) H' → Q (.exit 1) ρ H')
  (hq2 : (fwF l o).1 < 0 → ∀ ρ vl' vt' x H', lk ρ 1 = u → lk ρ 2 = .ptr b2 0 → lk ρ 3 = vl' → lk ρ 4 = vt' → lk ρ 5 = w → TwoO (Ab.upd g b6 x) vl' (l ++ [(fwF l o).2]) vt' (to ++ [(l.length : Int)]) H' → Q .normal ρ H') :
  wpc Tryz.prog G Tryz.f27.ntmps C27_26 Q [(1, u), (2, .ptr b2 0), (3, vl), (4, vt), (5, w), (6, .ptr b6 0)] H := by
 have hb6 := hr.get (upd_same _ _ _)
 have kF := borrow_is (rknown42_spec (G := G) (h := noH) l o (by omega)) (h := H) (.cons hr.argL (.cons (.same _ _) .nil)) rfl
 have hF : fwF l o = (knownN l (lastS l) o, o) := rfl
 rw [hF] at hq1 hq2
 generalize knownN l (lastS l) o = vv at *
 simp only [push_cast, simprocAttr, hb6]
 refine kF.to ?_
 by_cases c : vv ≥ 0
 ·simp only [push_cast, simprocAttr, c]
  refine hr.appT vv ht fun v' h' hr' => ?_
  simp only [push_cast, simprocAttr, hr'.one.1]
  exact hq1 c _ v' _ _ rfl rfl rfl rfl rfl hr'
 ·have hal := hr.one.2.2
  simp only [push_cast, simprocAttr, hb6, hal, c]
  refine hr.appT l.length ht fun v' h' hr3 => ?_
  have hb3 := hr3.get (upd_same _ _ _)
  simp only [push_cast, simprocAttr, hr3.one.1, hb3]
  refine hr3.appL _ hl fun v4 h4 hr4 => ?_
  simp only [push_cast, simprocAttr, hr4.one.2.1]
  exact hq2 (by simp only; omega) _ v4 v' _ _ rfl rfl rfl rfl rfl hr4
theorem rfwd_head {g h2 : Heap} {vl vt : AV} {l : List IOp} {to : List Int} {b6 b2 : Nat} {o : IOp} {u w : AV} {Q : Exit → Env → Heap → Prop} (hr : TwoO g vl l vt to h2) (hb6 : h2 b6 = none) (hR : renOK to o) (h6 : o.code ≤ 6)
  (T : ∀ H, H = Ab.upd h2 b6 ⟨(ren to o).cells, 0⟩ → wpc Tryz.prog G Tryz.f27.ntmps C27_26 Q [(1, u), (2, .ptr b2 0), (3, vl), (4, vt), (5, w), (6, .ptr b6 0)] H) :
  wpc Tryz.prog G Tryz.f27.ntmps C27_28 Q [(1, u), (2, .ptr b2 0), (3, vl), (4, vt), (5, w), (6, .ptr b6 0)] (Ab.upd h2 b6 ⟨o.cells, 0⟩) := by
 obtain ⟨hR1, hR2⟩ := hR
 show wpc _ _ _ (.seq [1, 2, 3, 4, 5, 6] C27_11 (.seq [1, 2, 3, 4, 5, 6] C27_15 C27_26)) _ _ _
 generalize C27_26 = Y at T ⊢
 by_cases g3 : o.code = 3 ∨ o.code = 5 ∨ o.code = 6
 ·obtain ⟨⟨q1, q2⟩, q3, q4⟩ := hR1 g3
  obtain ⟨bt, pre, cap, sp, rfl, e2, e3⟩ := hr.lieT (by omega)
  have f5 : ¬ bt = b6 := fun e => by rw [← e, e2] at hb6; cases hb6
  have q5 : o.a.toNat < to.length := by omega
  have q6 : o.b.toNat < to.length := by omega
  rcases g3 with g | g | g <;>
  ·simp (disch := omega) only [push_cast, simprocAttr, wrap_i64, toNat_ofInt64, Nat.min_eq_left, Int.toNat_of_nonneg, upd_at, f5, e2, q1, q2, q3, q4, q5, q6, g]
   rw [show ren to o = ⟨o.code, to.getD o.a.toNat 0, to.getD o.b.toNat 0, o.imm, o.x, o.y⟩ from by unfold ren; rw [if_pos (by omega)], g] at T
   exact T _ rfl
 ·by_cases g4 : o.code = 4
  ·obtain ⟨q1, q2⟩ := hR2 g4
   obtain ⟨bt, pre, cap, sp, rfl, e2, e3⟩ := hr.lieT (by omega)
   have f5 : ¬ bt = b6 := fun e => by rw [← e, e2] at hb6; cases hb6
   have q5 : o.a.toNat < to.length := by omega
   simp (disch := omega) only [push_cast, simprocAttr, wrap_i64, toNat_ofInt64, Nat.min_eq_left, Int.toNat_of_nonneg, upd_at, f5, e2, q1, q2, q5, g4]
   rw [show ren to o = ⟨o.code, to.getD o.a.toNat 0, o.b, o.imm, o.x, o.y⟩ from by unfold ren; rw [if_neg g3, if_pos g4], g4] at T
   exact T _ rfl
  ·have g5 : ¬ o.code = 3 := by omega
   have g6 : ¬ o.code ≥ 3 := by omega
   have g7 : ¬ o.code ≥ 5 := by omega
   simp (disch := omega) only [push_cast, simprocAttr, wrap_i64, toNat_ofInt64, Nat.min_eq_left, Int.toNat_of_nonneg, g4, g5, g6, g7]
   rw [show ren to o = o from by unfold ren; rw [if_neg g3, if_neg g4]] at T
   exact T _ rfl
theorem rfwd_spec (b : IBk) (hw : b.wf) (hc : b.check = 0) : Spec Tryz.prog G 27 [.agg b.cells] h (Is (.agg (b.ps fwF).cells) h) := by
 obtain ⟨hops, hexs⟩ := right_parts hc
 obtain ⟨hs1, hs2, hs3⟩ := hw.hs
 refine Spec.is C27ok rfl ?_
 simp only [push_cast, simprocAttr]
 intro b2 hb2 b8 hb8 b9 hb9
 have i1 : Own 6 (Ab.upd h b2 ⟨[.nils, .nils, .nils, .int .i64 0], 0⟩) (.sl b8 0 0 0) [] 0 _ := own_new hb8
 have i2 : Own 1 _ (.sl b9 0 0 0) [] 0 _ := own_new hb9
 refine lpc.rel [1, 2, 3, 4, 5] (fun m ρ h' => ∃ (k : Nat) (vl vt : AV), m = b.ops.length - k ∧ k ≤ b.ops.length ∧ TwoO (Ab.upd h b2 ⟨[.nils, .nils, .nils, .int .i64 0], 0⟩) vl (psN fwF (b.ops.take k)).l vt (psN fwF (b.ops.take k)).to h' ∧
  ρ = [(1, .cp b.cells 0), (2, .ptr b2 0), (3, vl), (4, vt), (5, .int .i64 (k : Int))]) ⟨_, 0, _, _, rfl, by omega, ⟨_, i1, i2⟩, rfl⟩ ?_
 rintro m _ h2 ⟨k, vl, vt, rfl, hk, hr, rfl⟩
 by_cases hk2 : k < b.ops.length
 ·have hst := psstep_eq fwF (psN fwF (b.ops.take k)) (b.ops.getD k IOp.zero)
  rw [← psN_succ fwF b.ops k hk2] at hst
  have htl : (psN fwF (b.ops.take k)).to.length = k := by rw [psN_to, List.length_take]; omega
  have hll := psN_l fwF (b.ops.take k)
  rw [List.length_take] at hll
  have hok := renOK_of (hops k hk2) htl
  have h6 := code_le6 (hops k hk2)
  generalize psN fwF (b.ops.take k) = f at *
  generalize hO : b.ops.getD k IOp.zero = o at *
  have M := fun b6 (hb6 : h2 b6 = none) Q hq1 hq2 => rfwd_head (G := G) (b2 := b2) (b6 := b6) (u := .cp b.cells 0) (w := .int .i64 (k : Int)) (Q := Q) hr hb6 hok h6 fun H hH => by
   subst hH
   exact rfwd_mid (hr.upd (x := ⟨(ren f.to o).cells, 0⟩) (.inl hb6)) (by omega) (by omega) hq1 hq2
  have g2 : ∀ b6, h2 b6 = none → Ab.upd h b2 ⟨[.nils, .nils, .nils, .int .i64 0], 0⟩ b6 = none := fun b6 h => hr.none h
  show wpc _ _ _ (.seq [1, 2, 3, 4, 5] C27_6 (.seq [1, 2, 3, 4, 5] (.block 1 (.seq [1, 2, 3, 4, 5, 6] C27_7 C27_28)) C27_31)) _ _ _
  generalize C27_28 = Y at M ⊢
  simp only [push_cast, simprocAttr, hk2, hO]
  intro b6 hb6
  refine M b6 hb6 _ (fun h0 ρ vt' x H' l1 l2 l3 l4 l5 hr' => ?_) fun h0 ρ vl' vt' x H' l1 l2 l3 l4 l5 hr' => ?_
  ·obtain ⟨H1, s1, hr2⟩ := hr'.drop (g2 b6 hb6)
   simp (disch := omega) only [push_cast, simprocAttr, wrap_i64, toNat_ofInt64, Nat.min_eq_left, Int.toNat_of_nonneg, l1, l2, l3, l4, l5]
   exact ⟨_, H1, by omega, s1, k + 1, vl, vt', rfl, by omega, by rw [hst, if_pos h0, if_pos h0]; exact hr2, rfl⟩
  ·obtain ⟨H1, s1, hr2⟩ := hr'.drop (g2 b6 hb6)
   simp (disch := omega) only [push_cast, simprocAttr, wrap_i64, toNat_ofInt64, Nat.min_eq_left, Int.toNat_of_nonneg, l1, l2, l3, l4, l5]
   exact ⟨_, H1, by omega, s1, k + 1, vl', vt', rfl, by omega, by rw [hst, if_neg (by omega), if_neg (by omega)]; exact hr2, rfl⟩
 ·obtain rfl : k = b.ops.length := by omega
  rw [List.take_length] at hr
  have htl := psN_to fwF b.ops
  have hps : b.ps fwF = ⟨b.pcs, (psN fwF b.ops).l, b.exits.map (renE (psN fwF b.ops).to), b.last⟩ := rfl
  rw [hps]
  generalize psN fwF b.ops = f at *
  have kE := fun h : Heap => rExits_spec (G := G) (h := h) b.exits f.to (fun k hk => exOK_of (hexs k hk) htl) hs2 (fun k hk => getD_map (n := k) hs3)
  simp only [push_cast, simprocAttr, hk2]
  refine hr.freeze fun h1 o1 => ?_
  simp only [push_cast, simprocAttr]
  refine wkQ.own o1 ?_
  simp only [push_cast, simprocAttr]
  refine (kE _).to ?_
  simp only [push_cast, simprocAttr]
  exact ⟨rfl, sub_upd hb2 (.refl _)⟩
end Go.Ab
end
section
namespace Go.Ab
open Go.Proofs
variable {G : Glo} {h : Heap}
def hitX (n : Nat) (o : IOp) : Bool := decide (4 ≤ o.code) && decide (o.x = n) || decide (o.code = 5) && decide (o.y = n)
theorem rNamed_spec (b : IBk) (n : Nat) (hl : b.ops.length ≤ 1000000000000) : Spec Tryz.prog G 84 [.agg b.cells, .int .i64 n] h (Is (.bool (namedX b.ops b.last n)) h) := by
 have hN : namedX b.ops b.last n = (decide (b.last = n) || b.ops.any (hitX n)) := rfl
 rw [hN]
 clear hN
 refine Spec.is C84ok rfl ?_
 by_cases c : b.last = n
 ·rw [decide_eq_true c]
  simp only [push_cast, simprocAttr, c]
  try simp
 ·rw [decide_eq_false c, Bool.false_or]
  simp only [push_cast, simprocAttr, c]
  refine lpc.rel [1, 2, 5] (fun m ρ h' => ∃ k : Nat, m = b.ops.length - k ∧ k ≤ b.ops.length ∧ h = h' ∧ (∀ i, i < k → hitX n (b.ops.getD i IOp.zero) = false) ∧ ρ = [(1, .int .i64 n), (2, .cp b.cells 0), (5, .int .i64 (k : Int))]) ⟨_, 0, rfl, by omega, rfl, fun i hi => by omega, rfl⟩ ?_
  rintro m _ _ ⟨k, rfl, hk, rfl, hall, rfl⟩
  by_cases hk2 : k < b.ops.length
  ·have hon : hitX n (b.ops.getD k IOp.zero) = true → b.ops.any (hitX n) = true := fun q => by
    rw [List.any_eq_true]
    exact ⟨b.ops[k], List.getElem_mem hk2, by simpa [hk2] using q⟩
   have hoff : hitX n (b.ops.getD k IOp.zero) = false → ∀ i, i < k + 1 → hitX n (b.ops.getD i IOp.zero) = false := fun q i hi => by
    by_cases e : i = k
    ·rw [e]; exact q
    ·exact hall i (by omega)
   have hd : hitX n (b.ops.getD k IOp.zero) = (decide (4 ≤ (b.ops.getD k IOp.zero).code) && decide ((b.ops.getD k IOp.zero).x = n) || decide ((b.ops.getD k IOp.zero).code = 5) && decide ((b.ops.getD k IOp.zero).y = n)) := rfl
   generalize hitX n (b.ops.getD k IOp.zero) = X at *
   generalize hO : b.ops.getD k IOp.zero = o at *
   simp only [push_cast, simprocAttr, hk2, hO]
   intro b6 hb6
   rw [era_none hb6]
   cases X with
   | true =>
    have := hon rfl
    rw [this]
    have hd' := hd.symm
    simp only [Bool.or_eq_true, Bool.and_eq_true, decide_eq_true_eq] at hd'
    by_cases c4 : o.code ≥ 4
    ·by_cases cx : o.x = n
     ·simp only [push_cast, simprocAttr, c4, cx]
     ·rcases hd' with q | ⟨q1, q2⟩
      ·exact absurd q.2 cx
      ·simp only [push_cast, simprocAttr, c4, cx, q1, q2]
    ·rcases hd' with q | ⟨q1, q2⟩
     ·exact absurd q.1 c4
     ·omega
   | false =>
    have hoff := hoff rfl
    have hd' := hd.symm
    simp only [Bool.or_eq_false_iff, Bool.and_eq_false_iff, decide_eq_false_iff_not] at hd'
    obtain ⟨d1, d2⟩ := hd'
    by_cases c4 : o.code ≥ 4
    ·have cx : ¬ o.x = n := d1.resolve_left (fun q => q c4)
     by_cases c5 : o.code = 5
     ·have cy : ¬ o.y = n := d2.resolve_left (fun q => q c5)
      simp (disch := omega) only [push_cast, simprocAttr, wrap_i64, toNat_ofInt64, Nat.min_eq_left, Int.toNat_of_nonneg, c5, cx, cy]
      (try intro _)
      exact ⟨_, _, by omega, .refl _, k + 1, rfl, by omega, rfl, hoff, rfl⟩
     ·simp (disch := omega) only [push_cast, simprocAttr, wrap_i64, toNat_ofInt64, Nat.min_eq_left, Int.toNat_of_nonneg, c4, c5, cx]
      (try intro _)
      exact ⟨_, _, by omega, .refl _, k + 1, rfl, by omega, rfl, hoff, rfl⟩
    ·have c5 : ¬ o.code = 5 := by omega
     simp (disch := omega) only [push_cast, simprocAttr, wrap_i64, toNat_ofInt64, Nat.min_eq_left, Int.toNat_of_nonneg, c4, c5]
     (try intro _)
     (try intro _)
     exact ⟨_, _, by omega, .refl _, k + 1, rfl, by omega, rfl, hoff, rfl⟩
  ·obtain rfl : k = b.ops.length := by omega
   have : b.ops.any (hitX n) = false := by
    rw [List.any_eq_false]
    intro o ho
    obtain ⟨i, hi, rfl⟩ := List.getElem_of_mem ho
    have := hall i hi
    simp [hi] at this
    simp [this]
   simp only [push_cast, simprocAttr, hk2, this]
theorem rknown31_spec (l : List IOp) (o : IOp) (hl : l.length ≤ 1000000000000) (hi : 5 ≤ (o.imm.toNat : Int) ∧ (o.imm.toNat : Int) ≤ 10) (ha : 0 ≤ o.a ∧ o.a < l.length) (hb : 0 ≤ o.b ∧ o.b < l.length) : Spec Tryz.prog G 81 [ops l, .agg o.cells] h (Is (.int .i64 (gk l o)) h) := by
 obtain ⟨a0, a1⟩ := ha
 obtain ⟨b0, b1⟩ := hb
 have qa : o.a.toNat < l.length := by omega
 have qb : o.b.toNat < l.length := by omega
 have kT := fun h : Heap => rTaken_spec (G := G) (h := h) (o.imm.toNat : Int) (l.getD o.a.toNat IOp.zero).imm (l.getD o.b.toNat IOp.zero).imm hi
 obtain ⟨R, hR⟩ : ∃ R, R = gk l o := ⟨_, rfl⟩
 rw [← hR]
 unfold gk at hR
 generalize hA : l.getD o.a.toNat IOp.zero = A at *
 generalize hB : l.getD o.b.toNat IOp.zero = B at *
 have kO := fun h : Heap => rother_spec (G := G) (h := h) (o.imm.toNat : Int)
 refine Spec.is C81ok rfl ?_
 simp only [push_cast, simprocAttr, a0, a1, b0, b1, qa, qb, hA, hB]
 intro b6 hb6
 rw [era_none hb6]
 intro b7 hb7
 rw [era_none hb7]
 refine ⟨fun c => (kT _).to ?_, fun c => ⟨fun c2 => ?_, fun c2 => ?_⟩⟩
 ·rw [if_pos c] at hR
  cases hv : takenN o.imm.toNat A.imm B.imm
  ·rw [hv] at hR
   simp only [push_cast, simprocAttr]
   rw [hR]; rfl
  ·rw [hv] at hR
   simp only [push_cast, simprocAttr]
   rw [hR]; rfl
 ·have c' : ¬ (A.code = 2 ∧ B.code = 2) := fun q => by simp [q.1, q.2] at c
  rw [if_neg c', if_pos c2] at hR
  by_cases q : (o.imm.toNat : Int) = 5 ∨ (o.imm.toNat : Int) = 8 ∨ (o.imm.toNat : Int) = 10
  ·rw [if_pos q] at hR
   refine ⟨fun _ => ⟨by rw [hR], .refl _⟩, fun z => by omega⟩
  ·rw [if_neg q] at hR
   refine ⟨fun z => by omega, fun _ => ⟨by rw [hR], .refl _⟩⟩
 ·have c' : ¬ (A.code = 2 ∧ B.code = 2) := fun q => by simp [q.1, q.2] at c
  rw [if_neg c', if_neg c2] at hR
  refine lpc.rel [0, 3, 5, 8] (fun m ρ h' => ∃ k : Nat, m = l.length - k ∧ k ≤ l.length ∧ h = h' ∧ R = scanG (l.drop k) o ∧ ρ = [(0, ops l), (3, .cp o.cells 0), (5, .int .i64 (o.imm.toNat : Int)), (8, .int .i64 (k : Int))]) ⟨_, 0, rfl, by omega, rfl, by rw [hR, List.drop_zero], rfl⟩ ?_
  clear hR
  rintro m _ _ ⟨k, rfl, hk, rfl, hsc, rfl⟩
  by_cases hk2 : k < l.length
  ·have g0 := ops_0 l k
   have g1 := ops_1 l k
   have g2 := ops_2 l k
   have g3 := ops_3 l k
   rw [if_pos hk2] at g0 g1 g2 g3
   have hs : scanG (l.drop k) o = if (l.getD k IOp.zero).code = 6 ∧ (l.getD k IOp.zero).a = o.a ∧ (l.getD k IOp.zero).b = o.b then (if ((l.getD k IOp.zero).imm.toNat : Int) = o.imm.toNat then 1 else if ((l.getD k IOp.zero).imm.toNat : Int) = otherN o.imm.toNat then 2 else scanG (l.drop (k + 1)) o) else scanG (l.drop (k + 1)) o := by
    rw [List.drop_eq_getElem_cons hk2, scanG]
    simp [hk2]
   generalize hP : l.getD k IOp.zero = p at *
   have e6 : (p.code == 6) = decide (p.code = 6) := rfl
   have ea : (p.a == o.a) = decide (p.a = o.a) := rfl
   have eb : (p.b == o.b) = decide (p.b = o.b) := rfl
   have ei : ((p.imm.toNat : Int) == (o.imm.toNat : Int)) = decide ((p.imm.toNat : Int) = o.imm.toNat) := rfl
   have ej : ((p.imm.toNat : Int) == otherN o.imm.toNat) = decide ((p.imm.toNat : Int) = otherN o.imm.toNat) := rfl
   by_cases d6 : p.code = 6
   ·rw [decide_eq_true d6] at e6
    by_cases da : p.a = o.a
    ·rw [decide_eq_true da] at ea
     by_cases db : p.b = o.b
     ·rw [decide_eq_true db] at eb
      rw [if_pos ⟨d6, da, db⟩] at hs
      by_cases di : (p.imm.toNat : Int) = o.imm.toNat
      ·rw [decide_eq_true di] at ei
       rw [if_pos di] at hs
       simp (disch := omega) only [push_cast, simprocAttr, wrap_i64, toNat_ofInt64, Nat.min_eq_left, Int.toNat_of_nonneg, hk2, hP, g0, g1, g2, g3, e6, ea, eb, ei]
       rw [hsc, hs]
      ·rw [decide_eq_false di] at ei
       rw [if_neg di] at hs
       simp (disch := omega) only [push_cast, simprocAttr, wrap_i64, toNat_ofInt64, Nat.min_eq_left, Int.toNat_of_nonneg, hk2, hP, g0, g1, g2, g3, e6, ea, eb, ei]
       refine (kO _).to ?_
       by_cases dj : (p.imm.toNat : Int) = otherN o.imm.toNat
       ·rw [decide_eq_true dj] at ej
        rw [if_pos dj] at hs
        simp (disch := omega) only [push_cast, simprocAttr, wrap_i64, toNat_ofInt64, Nat.min_eq_left, Int.toNat_of_nonneg, hk2, hP, ej]
        rw [hsc, hs]
       ·rw [decide_eq_false dj] at ej
        rw [if_neg dj] at hs
        simp (disch := omega) only [push_cast, simprocAttr, wrap_i64, toNat_ofInt64, Nat.min_eq_left, Int.toNat_of_nonneg, hk2, hP, ej]
        exact ⟨_, _, by omega, .refl _, k + 1, rfl, by omega, rfl, by rw [hsc, hs], rfl⟩
     ·rw [decide_eq_false db] at eb
      rw [if_neg (fun h => db h.2.2)] at hs
      simp (disch := omega) only [push_cast, simprocAttr, wrap_i64, toNat_ofInt64, Nat.min_eq_left, Int.toNat_of_nonneg, hk2, hP, g0, g1, g2, g3, e6, ea, eb]
      exact ⟨_, _, by omega, .refl _, k + 1, rfl, by omega, rfl, by rw [hsc, hs], rfl⟩
    ·rw [decide_eq_false da] at ea
     rw [if_neg (fun h => da h.2.1)] at hs
     simp (disch := omega) only [push_cast, simprocAttr, wrap_i64, toNat_ofInt64, Nat.min_eq_left, Int.toNat_of_nonneg, hk2, hP, g0, g1, g2, g3, e6, ea]
     exact ⟨_, _, by omega, .refl _, k + 1, rfl, by omega, rfl, by rw [hsc, hs], rfl⟩
   ·rw [decide_eq_false d6] at e6
    rw [if_neg (fun h => d6 h.1)] at hs
    simp (disch := omega) only [push_cast, simprocAttr, wrap_i64, toNat_ofInt64, Nat.min_eq_left, Int.toNat_of_nonneg, hk2, hP, g0, g1, g2, g3, e6]
    exact ⟨_, _, by omega, .refl _, k + 1, rfl, by omega, rfl, by rw [hsc, hs], rfl⟩
  ·obtain rfl : k = l.length := by omega
   rw [List.drop_length] at hsc
   simp only [push_cast, simprocAttr, hk2]
   rw [hsc]; rfl
end Go.Ab
end
section
namespace Go.Ab
open Go.Proofs
variable {G : Glo} {h : Heap}
def kepK (nm : Nat → Bool) (es : List IEx) (k : Nat) : List IEx := ((List.range k).filter nm).map fun n => es.getD n IEx.zero
theorem kepK_len (nm es k) : (kepK nm es k).length = plN nm k := by simp [kepK, plN]
theorem kepK_succ (nm es k) : kepK nm es (k + 1) = if nm k then kepK nm es k ++ [es.getD k IEx.zero] else kepK nm es k := by
 unfold kepK
 rw [List.range_succ, List.filter_append, List.map_append]
 cases hm : nm k <;> simp [hm]
theorem upk_succ (kp : Nat → Bool) (n : Nat) : upk kp (n + 1) = upk kp n ++ [(plN kp n : Int)] := by simp [upk, List.range_succ]

theorem take_succD (l : List IOp) (k : Nat) (hk : k < l.length) (f : IOp → IOp) : ((l.map f).take (k + 1)).flatMap IOp.cells = ((l.map f).take k).flatMap IOp.cells ++ (f (l.getD k IOp.zero)).cells := by
 rw [flat_snoc IOp.cells (l.map f) IOp.zero k (by simpa using hk)]
 simp [hk]
theorem rnx_ops {g : Heap} {b8 b4 : Nat} {pcs : List (BitVec 32)} {l : List IOp} {es : List IEx} {last : Int} {pl : Nat → Nat} {x8 y8 : AV} {Q : Exit → Env → Heap → Prop} {N : Nat} {places : List Int} (hpl : ∀ i, i < N → places.getD i 0 = (pl i : Int)) (hpn : places.length = N) (hg : g b8 = none) (hl : l.length ≤ 1000000000000)
  (hx : ∀ j : Nat, j < l.length → (l.getD j IOp.zero).code ≤ 6 ∧ (4 ≤ (l.getD j IOp.zero).code → 0 ≤ (l.getD j IOp.zero).x ∧ (l.getD j IOp.zero).x < (N : Int)) ∧ ((l.getD j IOp.zero).code = 5 → 0 ≤ (l.getD j IOp.zero).y ∧ (l.getD j IOp.zero).y < (N : Int)))
  (hq : ∀ ρ v H', lk ρ 4 = .ptr b4 0 → lk ρ 8 = .ptr b8 0 → Own 6 (Ab.upd g b8 ⟨[.ro (wds pcs) pcs.length, v, x8, y8], 0⟩) v ((l.map (reX pl)).flatMap IOp.cells) l.length H' → Q .normal ρ H') :
  wpc Tryz.prog G Tryz.f82.ntmps C82_44 Q [(2, .cp (IBk.cells ⟨pcs, l, es, last⟩) 0), (4, .ptr b4 0), (5, ints places), (8, .ptr b8 0)] (Ab.upd g b8 ⟨[.ro (wds pcs) pcs.length, .nils, x8, y8], 0⟩) := by
 simp only [push_cast, simprocAttr]
 refine lpc.rel [2, 4, 5, 8, 9] (fun m ρ h' => ∃ (k : Nat) (v : AV), m = l.length - k ∧ k ≤ l.length ∧ Own 6 (Ab.upd g b8 ⟨[.ro (wds pcs) pcs.length, v, x8, y8], 0⟩) v (((l.map (reX pl)).take k).flatMap IOp.cells) k h' ∧
  ρ = [(2, .cp (IBk.cells ⟨pcs, l, es, last⟩) 0), (4, .ptr b4 0), (5, ints places), (8, .ptr b8 0), (9, .int .i64 (k : Int))]) ⟨_, 0, .nils, rfl, by omega, .nil, rfl⟩ ?_
 rintro m _ h2 ⟨k, v, rfl, hk, hown, rfl⟩
 have hb8 := hown.get (upd_same _ _ _)
 by_cases hk2 : k < l.length
 ·obtain ⟨x6, x4, x5⟩ := hx k hk2
  have hsn := take_succD l k hk2 (reX pl)
  generalize hO : l.getD k IOp.zero = o at *
  have fin : ∀ b10, h2 b10 = none → ∀ H, H = Ab.upd h2 b10 ⟨(reX pl o).cells, 0⟩ → ∀ Q', (∀ ρ v' H' h6, lk ρ 2 = .cp (IBk.cells ⟨pcs, l, es, last⟩) 0 → lk ρ 4 = .ptr b4 0 → lk ρ 5 = ints places → lk ρ 8 = .ptr b8 0 → lk ρ 9 = .int .i64 (k : Int) → Sub h6 H' → Own 6 (Ab.upd g b8 ⟨[.ro (wds pcs) pcs.length, v', x8, y8], 0⟩) v' (((l.map (reX pl)).take k).flatMap IOp.cells ++ (reX pl o).cells) (k + 1) h6 → Q' .normal ρ H') →
    wpc Tryz.prog G Tryz.f82.ntmps C82_34 Q' [(2, .cp (IBk.cells ⟨pcs, l, es, last⟩) 0), (4, .ptr b4 0), (5, ints places), (8, .ptr b8 0), (9, .int .i64 (k : Int)), (10, .ptr b10 0)] H := by
   rintro b10 hb10 H rfl Q' hq'
   have n1 : ¬ b8 = b10 := fun e => by rw [← e, hb8] at hb10; cases hb10
   have n2 : ¬ b10 = b8 := fun e => n1 e.symm
   have ho' := Own.upd hown (b := b10) (x := ⟨(reX pl o).cells, 0⟩) (.inl hb10)
   simp only [push_cast, simprocAttr, upd_at, n1, n2, hb8]
   refine Own.app ho' (m := 1) (IOp.len _) (by omega) (by omega) fun v4 h4 ho4 => ?_
   have hg8 := ho4.get (b := b8) (by rw [upd_ne n1]; exact upd_same _ _ _)
   simp (disch := omega) only [push_cast, simprocAttr, wrap_i64, toNat_ofInt64, Nat.min_eq_left, Int.toNat_of_nonneg, hg8, ho4.one]
   have ho5 := Own.upd ho4 (b := b8) (x := ⟨[.ro (wds pcs) pcs.length, v4, x8, y8], 0⟩) (.inr ⟨_, by rw [upd_ne n1]; exact upd_same _ _ _⟩)
   rw [upd_comm n2, upd_upd] at ho5
   obtain ⟨h6, hs6, ho6⟩ := Own.drop ho5 (by
    have := hown.sub.none hb10
    rw [upd_ne n2] at this
    rw [upd_ne n2]; exact this)
   exact hq' _ v4 _ h6 rfl rfl rfl rfl rfl hs6 ho6
  show wpc _ _ _ (.seq [2, 4, 5, 8, 9] C82_24 (.seq [2, 4, 5, 8, 9] (.block 3 (.seq [2, 4, 5, 8, 9, 10] C82_25 (.seq [2, 4, 5, 8, 9, 10] C82_29 (.seq [2, 4, 5, 8, 9, 10] C82_33 C82_34)))) C82_39)) _ _ _
  generalize C82_34 = Y at fin ⊢
  by_cases c5 : o.code = 5
  ·obtain ⟨p1, p2⟩ := x4 (by omega)
   obtain ⟨p3, p4⟩ := x5 c5
   have q1 : o.x.toNat < places.length := by omega
   have q2 : o.y.toNat < places.length := by omega
   have r1 := hpl o.x.toNat (by omega)
   have r2 := hpl o.y.toNat (by omega)
   have p2' : o.x < (places.length : Int) := by omega
   have p4' : o.y < (places.length : Int) := by omega
   have e : reX pl o = { o with x := (pl o.x.toNat : Int), y := (pl o.y.toNat : Int) } := by unfold reX; rw [if_pos c5]
   simp only [push_cast, simprocAttr, hk2, hO]
   intro b10 hb10
   have fin := fun H hH Q' => fin b10 hb10 H hH Q'
   rw [e, c5] at fin
   simp only [push_cast, simprocAttr, hk2, c5, p1, p2', p3, p4', q1, q2, r1, r2]
   refine fin _ rfl _ fun ρ v' H' h6 l2 l4 l5 l8 l9 hs6 ho6 => ?_
   simp (disch := omega) only [push_cast, simprocAttr, wrap_i64, toNat_ofInt64, Nat.min_eq_left, Int.toNat_of_nonneg, l2, l4, l5, l8, l9]
   exact ⟨_, h6, by omega, hs6, k + 1, v', rfl, by omega, by rw [hsn, e, c5]; exact ho6, rfl⟩
  ·by_cases c4 : o.code ≥ 4
   ·obtain ⟨p1, p2⟩ := x4 (by omega)
    have q1 : o.x.toNat < places.length := by omega
    have r1 := hpl o.x.toNat (by omega)
    have p2' : o.x < (places.length : Int) := by omega
    have e : reX pl o = { o with x := (pl o.x.toNat : Int) } := by unfold reX; rw [if_neg c5, if_pos c4]
    simp only [push_cast, simprocAttr, hk2, hO]
    intro b10 hb10
    have fin := fun H hH Q' => fin b10 hb10 H hH Q'
    rw [e] at fin
    simp only [push_cast, simprocAttr, hk2, c4, c5, p1, p2', q1, r1]
    refine fin _ rfl _ fun ρ v' H' h6 l2 l4 l5 l8 l9 hs6 ho6 => ?_
    simp (disch := omega) only [push_cast, simprocAttr, wrap_i64, toNat_ofInt64, Nat.min_eq_left, Int.toNat_of_nonneg, l2, l4, l5, l8, l9]
    exact ⟨_, h6, by omega, hs6, k + 1, v', rfl, by omega, by rw [hsn, e]; exact ho6, rfl⟩
   ·have e : reX pl o = o := by unfold reX; rw [if_neg c5, if_neg c4]
    simp only [push_cast, simprocAttr, hk2, hO]
    intro b10 hb10
    have fin := fun H hH Q' => fin b10 hb10 H hH Q'
    rw [e] at fin
    simp only [push_cast, simprocAttr, hk2, c4, c5]
    refine fin _ rfl _ fun ρ v' H' h6 l2 l4 l5 l8 l9 hs6 ho6 => ?_
    simp (disch := omega) only [push_cast, simprocAttr, wrap_i64, toNat_ofInt64, Nat.min_eq_left, Int.toNat_of_nonneg, l2, l4, l5, l8, l9]
    exact ⟨_, h6, by omega, hs6, k + 1, v', rfl, by omega, by rw [hsn, e]; exact ho6, rfl⟩
 ·obtain rfl : k = l.length := by omega
  rw [List.take_of_length_le (by simp)] at hown
  simp only [push_cast, simprocAttr, hk2]
  exact hq _ v _ rfl rfl hown
end Go.Ab
end
section
namespace Go.Ab
open Go.Proofs
variable {G : Glo} {h : Heap}
theorem kepK_get {nm : Nat → Bool} {es : List IEx} {j : Nat} (h : j < (kepK nm es es.length).length) : ∃ n, n < es.length ∧ nm n = true ∧ (kepK nm es es.length).getD j IEx.zero = es.getD n IEx.zero := by
 have hm : (kepK nm es es.length).getD j IEx.zero ∈ kepK nm es es.length := by
  rw [List.getD_eq_getElem?_getD, List.getElem?_eq_getElem h]
  exact List.getElem_mem h
 generalize (kepK nm es es.length).getD j IEx.zero = e at *
 unfold kepK at hm
 simp only [List.mem_map, List.mem_filter, List.mem_range] at hm
 obtain ⟨n, ⟨h1, h2⟩, rfl⟩ := hm
 exact ⟨n, h1, h2, rfl⟩
theorem rnamedX_spec {pcs : List (BitVec 32)} {l : List IOp} {es : List IEx} {last : Int} {to : List Int} (hl : l.length ≤ 1000000000000) (hs2 : es.length ≤ 1000000000000) (hm : ∀ k, k < es.length → (es.getD k IEx.zero).map.length ≤ 1000000000000) (hlast : 0 ≤ last ∧ last < es.length)
  (hx : ∀ j : Nat, j < l.length → (l.getD j IOp.zero).code ≤ 6 ∧ (4 ≤ (l.getD j IOp.zero).code → 0 ≤ (l.getD j IOp.zero).x ∧ (l.getD j IOp.zero).x < es.length) ∧ ((l.getD j IOp.zero).code = 5 → 0 ≤ (l.getD j IOp.zero).y ∧ (l.getD j IOp.zero).y < es.length))
  (hok : ∀ n, n < es.length → namedX l last n = true → exOK to (es.getD n IEx.zero)) :
  Spec Tryz.prog G 82 [.agg (IBk.cells ⟨pcs, l, es, last⟩), ints to] h (Is (.agg (prB pcs l es last (renE to)).cells) h) := by
 have kN := fun (n : Nat) (h : Heap) => rNamed_spec (G := G) (h := h) ⟨pcs, l, es, last⟩ n hl
 have hpa : partOf (IBk.cells ⟨pcs, l, es, last⟩) 0 (some 4) = some (.agg (IBk.cells ⟨pcs, l, es, last⟩)) := partOf_all rfl
 simp only at kN
 have hprB : prB pcs l es last (renE to) = ⟨pcs, l.map (reX (plN (namedX l last))), (kepK (namedX l last) es es.length).map (renE to), (plN (namedX l last) last.toNat : Int)⟩ := rfl
 rw [hprB]
 clear hprB
 generalize hnm : namedX l last = nm at *
 obtain ⟨l0, l1⟩ := hlast
 refine Spec.is C82ok rfl ?_
 simp only [push_cast, simprocAttr]
 intro b4 hb4 b11 hb11 b12 hb12
 have i1 : Own 1 (Ab.upd h b4 ⟨[.nils, .nils, .nils, .int .i64 0], 0⟩) (.sl b11 0 0 0) [] 0 _ := own_new hb11
 have i2 : Own 5 _ (.sl b12 0 0 0) [] 0 _ := own_new hb12
 refine lpc.rel [1, 2, 4, 5, 6, 7] (fun m ρ h' => ∃ (k : Nat) (v5 v6 : AV) (h1 : Heap), m = es.length - k ∧ k ≤ es.length ∧ Own 1 (Ab.upd h b4 ⟨[.nils, .nils, .nils, .int .i64 0], 0⟩) v5 ((upk nm k).map (.int .i64)) k h1 ∧ Own 5 h1 v6 ((kepK nm es k).flatMap IEx.cells) (plN nm k) h' ∧
  ρ = [(1, ints to), (2, .cp (IBk.cells ⟨pcs, l, es, last⟩) 0), (4, .ptr b4 0), (5, v5), (6, v6), (7, .int .i64 (k : Int))]) ⟨_, 0, _, _, _, rfl, by omega, i1, i2, rfl⟩ ?_
 rintro m _ h2 ⟨k, v5, v6, h1, rfl, hk, o1, o2, rfl⟩
 have hal := o2.alen
 have hple := plN_le nm k
 by_cases hk2 : k < es.length
 ·have hus := upk_succ nm k
  have hks := kepK_succ nm es k
  have hps := plN_succ nm k
  obtain ⟨h3, o3, o4⟩ := own_swap o1 o2
  have ep := exs_p es k
  rw [if_pos hk2] at ep
  simp only [push_cast, simprocAttr, hk2, hal]
  refine Own.app o4 (m := 1) rfl (by omega) (by omega) fun v5' h4 o5 => ?_
  simp only [push_cast, simprocAttr, o5.one, hpa]
  refine (kN k _).to ?_
  obtain ⟨h5, o6, o7⟩ := own_swap o3 o5
  have o6' : Own 1 (Ab.upd h b4 ⟨[.nils, .nils, .nils, .int .i64 0], 0⟩) v5' ((upk nm (k + 1)).map (.int .i64)) (k + 1) h5 := by rw [hus]; simpa using o6
  cases hv : nm k with
  | true =>
   rw [hv] at hps hks
   simp only [push_cast, simprocAttr, ep, hk2]
   refine Own.app o7 (m := 1) (IEx.len _) (by omega) (by omega) fun v6' h6 o8 => ?_
   simp (disch := omega) only [push_cast, simprocAttr, wrap_i64, toNat_ofInt64, Nat.min_eq_left, Int.toNat_of_nonneg, o8.one]
   have o8' : Own 5 h5 v6' ((kepK nm es (k + 1)).flatMap IEx.cells) (plN nm (k + 1)) h6 := by
    rw [hks, hps]; simpa using o8
   exact ⟨_, _, by omega, .refl _, k + 1, v5', v6', h5, rfl, by omega, o6', o8', rfl⟩
  | false =>
   rw [hv] at hps hks
   have o7' : Own 5 h5 v6 ((kepK nm es (k + 1)).flatMap IEx.cells) (plN nm (k + 1)) h4 := by
    rw [hks, hps]; simpa using o7
   simp (disch := omega) only [push_cast, simprocAttr, wrap_i64, toNat_ofInt64, Nat.min_eq_left, Int.toNat_of_nonneg]
   exact ⟨_, _, by omega, .refl _, k + 1, v5', v6, h5, rfl, by omega, o6', o7', rfl⟩
 ·obtain rfl : k = es.length := by omega
  obtain ⟨h3, o3, o4⟩ := own_swap o1 o2
  have hkl := kepK_len nm es es.length
  have hul : (upk nm es.length).length = es.length := by simp [upk]
  have hug := upk_get (kp := nm) (n := es.length) (i := last.toNat) (by omega)
  have ql : last.toNat < (upk nm es.length).length := by omega
  have kE := fun h : Heap => rExits_spec (G := G) (h := h) (kepK nm es es.length) to (fun j hj => by
   obtain ⟨n, q1, q2, q3⟩ := kepK_get hj
   rw [q3]; exact hok n q1 q2) (by omega) (fun j hj => by
   obtain ⟨n, q1, q2, q3⟩ := kepK_get hj
   rw [q3]; exact hm n q1)
  have o4' : Own 1 h3 v5 ((upk nm es.length).map (.int .i64)) (upk nm es.length).length h2 := by rw [hul]; exact o4
  have o3' : Own 5 (Ab.upd h b4 ⟨[.nils, .nils, .nils, .int .i64 0], 0⟩) v6 ((kepK nm es es.length).flatMap IEx.cells) (kepK nm es es.length).length h3 := by rw [hkl]; exact o3
  simp only [push_cast, simprocAttr, hk2]
  refine wkQ.own o4' ?_
  simp only [push_cast, simprocAttr]
  refine wkQ.own o3' ?_
  have hT := fun b8 (hb8 : Ab.upd h b4 ⟨[.nils, .nils, .nils, .int .i64 0], 0⟩ b8 = none) x8 y8 Q hq => rnx_ops (G := G) (b8 := b8) (b4 := b4) (pcs := pcs) (l := l) (es := es) (last := last) (pl := plN nm) (N := es.length) (places := upk nm es.length) (x8 := x8) (y8 := y8) (Q := Q) (fun i hi => upk_get hi) hul hb8 hl hx hq
  show wpc _ _ _ (.seq [2, 4, 5, 8] C82_20 (.seq [4, 8] C82_44 C82_47)) _ _ _
  generalize C82_44 = Y at hT ⊢
  have hI : ints (upk nm es.length) = .ro ((upk nm es.length).map (.int .i64)) es.length := by show AV.ro _ _ = _; rw [hul]
  simp only [hI] at hT
  have q : last.toNat < es.length := by omega
  have hN : ∀ b8, Ab.upd h b4 ⟨[.nils, .nils, .nils, .int .i64 0], 0⟩ b8 = none → ¬ b4 = b8 := fun b8 hb8 => Ne.symm (upd_none hb8).1
  simp only [push_cast, simprocAttr, l0, l1, ql, hul, hug]
  refine ⟨q, (kE _).to ?_, fun b8 hb8 => ⟨by rw [if_pos q], (kE _).to ?_⟩⟩
  ·simp only [push_cast, simprocAttr, l0, l1, ql, hul, hug]
   refine ⟨by rw [if_pos q], fun b8 hb8 => ?_⟩
   refine ⟨by rw [if_pos q], hT b8 hb8 _ _ _ fun ρ v H' l4 l8 ho => ?_⟩
   have n1 := hN b8 hb8
   have hlm : (l.map (reX (plN nm))).length = l.length := by simp
   rw [← hlm] at ho
   simp only [push_cast, simprocAttr, l4, l8]
   refine wkQ.cell ho (cs' := IBk.cells ⟨pcs, l.map (reX (plN nm)), (kepK nm es es.length).map (renE to), (plN nm last.toNat : Int)⟩) rfl (fun i => ?_) ?_
   ·match i with
    | 0 => exact .inl rfl
    | 1 => exact .inr ⟨rfl, rfl⟩
    | 2 => exact .inl rfl
    | 3 => exact .inl rfl
    | i + 4 => exact .inl rfl
   simp only [push_cast, simprocAttr, upd_at, n1, Ne.symm n1]
   (repeat first | refine sub_upd hb4 ?_ | refine sub_upd (upd_none hb8).2 ?_)
   exact .refl _
  ·simp only [push_cast, simprocAttr, l0, l1, ql, hul, hug]
   refine ⟨by rw [if_pos q], hT b8 hb8 _ _ _ fun ρ v H' l4 l8 ho => ?_⟩
   have n1 := hN b8 hb8
   have hlm : (l.map (reX (plN nm))).length = l.length := by simp
   rw [← hlm] at ho
   simp only [push_cast, simprocAttr, l4, l8]
   refine wkQ.cell ho (cs' := IBk.cells ⟨pcs, l.map (reX (plN nm)), (kepK nm es es.length).map (renE to), (plN nm last.toNat : Int)⟩) rfl (fun i => ?_) ?_
   ·match i with
    | 0 => exact .inl rfl
    | 1 => exact .inr ⟨rfl, rfl⟩
    | 2 => exact .inl rfl
    | 3 => exact .inl rfl
    | i + 4 => exact .inl rfl
   simp only [push_cast, simprocAttr, upd_at, n1, Ne.symm n1]
   (repeat first | refine sub_upd hb4 ?_ | refine sub_upd (upd_none hb8).2 ?_)
   exact .refl _
end Go.Ab
end
section
namespace Go.Ab
open Go.Proofs
variable {G : Glo} {h : Heap}
theorem scanG_rng (o : IOp) : ∀ l : List IOp, scanG l o = 0 ∨ scanG l o = 1 ∨ scanG l o = 2 := by
 intro l
 induction l with
 | nil => exact .inl rfl
 | cons p r ih => rw [scanG]; (repeat' split) <;> first | exact ih | simp
theorem gk_rng (l : List IOp) (o : IOp) : gk l o = 0 ∨ gk l o = 1 ∨ gk l o = 2 := by
 unfold gk
 (repeat' split) <;> first | exact scanG_rng o l | simp
def howN (l : List IOp) (o : IOp) : Int := if o.code = 6 then gk l o else 0
theorem rguard_mid {g H : Heap} {vl vt : AV} {l : List IOp} {to : List Int} {b8 b2 : Nat} {o : IOp} {u w : AV} {last : Int} {Q : Exit → Env → Heap → Prop} (hr : TwoO (Ab.upd g b8 ⟨o.cells, 0⟩) vl l vt to H) (hl : l.length + 1 ≤ 1000000000000) (ht : to.length + 1 ≤ 1000000000000)
  (hk : o.code = 6 → (5 ≤ (o.imm.toNat : Int) ∧ (o.imm.toNat : Int) ≤ 10) ∧ (0 ≤ o.a ∧ o.a < l.length) ∧ 0 ≤ o.b ∧ o.b < l.length)
  (hq : ∀ ρ vl' vt' x H', lk ρ 1 = u → lk ρ 2 = .ptr b2 0 → lk ρ 3 = vl' → lk ρ 4 = vt' → lk ρ 5 = .int .i64 (if howN l o = 2 then o.x else last) → lk ρ 6 = .bool (decide (howN l o = 2)) → lk ρ 7 = w →
   TwoO (Ab.upd g b8 x) vl' (if howN l o = 0 then l ++ [o] else l) vt' (to ++ [(l.length : Int)]) H' → Q .normal ρ H') :
  wpc Tryz.prog G Tryz.f42.ntmps C42_37 Q [(1, u), (2, .ptr b2 0), (3, vl), (4, vt), (5, .int .i64 last), (6, .bool false), (7, w), (8, .ptr b8 0)] H := by
 have hb8 := hr.get (upd_same _ _ _)
 have hal := hr.one.2.2
 have zero : howN l o = 0 → ∀ Q', (∀ ρ vl' vt' x H', lk ρ 1 = u → lk ρ 2 = .ptr b2 0 → lk ρ 3 = vl' → lk ρ 4 = vt' → lk ρ 5 = .int .i64 last → lk ρ 6 = .bool false → lk ρ 7 = w → TwoO (Ab.upd g b8 x) vl' (l ++ [o]) vt' (to ++ [(l.length : Int)]) H' → Q' .normal ρ H') →
   wpc Tryz.prog G Tryz.f42.ntmps C42_35 Q' [(1, u), (2, .ptr b2 0), (3, vl), (4, vt), (5, .int .i64 last), (6, .bool false), (7, w), (8, .ptr b8 0), (9, .int .i64 0)] H := by
  intro _ Q' hq'
  simp only [push_cast, simprocAttr, hb8, hal]
  refine hr.appT l.length ht fun v' h' hr3 => ?_
  have hb3 := hr3.get (upd_same _ _ _)
  simp only [push_cast, simprocAttr, hr3.one.1, hb3]
  refine hr3.appL _ hl fun v4 h4 hr4 => ?_
  simp only [push_cast, simprocAttr, hr4.one.2.1]
  exact hq' _ v4 v' _ _ rfl rfl rfl rfl rfl rfl rfl hr4
 by_cases c6 : o.code = 6
 ·obtain ⟨k1, k2, k3⟩ := hk c6
  have kF := borrow_is (rknown31_spec (G := G) (h := noH) l o (by omega) k1 k2 k3) (h := H) (.cons hr.argL (.cons (.same _ _) .nil)) rfl
  have hh : howN l o = gk l o := if_pos c6
  rw [hh] at hq zero
  have hrng := gk_rng l o
  generalize gk l o = v at *
  rcases hrng with rfl | rfl | rfl
  ·have zero := zero rfl
   show wpc _ _ _ (.seq [1, 2, 3, 4, 5, 6, 7, 8, 9] C42_18 (.seq [1, 2, 3, 4, 5, 6, 7, 8, 9] C42_22 C42_35)) _ _ _
   generalize C42_35 = Y at zero ⊢
   simp only [push_cast, simprocAttr, hb8, c6]
   refine kF.to ?_
   simp only [push_cast, simprocAttr]
   exact zero _ hq
  ·simp only [push_cast, simprocAttr, hb8, c6]
   refine kF.to ?_
   simp only [push_cast, simprocAttr, hb8, hal]
   refine hr.appT l.length ht fun v' h' hr3 => ?_
   simp only [push_cast, simprocAttr, hr3.one.1]
   exact hq _ vl v' _ _ rfl rfl rfl rfl rfl rfl rfl hr3
  ·simp only [push_cast, simprocAttr, hb8, c6]
   refine kF.to ?_
   simp only [push_cast, simprocAttr, hb8, hal]
   refine hr.appT l.length ht fun v' h' hr3 => ?_
   simp only [push_cast, simprocAttr, hr3.one.1]
   exact hq _ vl v' _ _ rfl rfl rfl rfl rfl rfl rfl hr3
 ·have hh : howN l o = 0 := if_neg c6
  rw [hh] at hq zero
  have zero := zero rfl
  show wpc _ _ _ (.seq [1, 2, 3, 4, 5, 6, 7, 8, 9] C42_18 (.seq [1, 2, 3, 4, 5, 6, 7, 8, 9] C42_22 C42_35)) _ _ _
  generalize C42_35 = Y at zero ⊢
  simp only [push_cast, simprocAttr, hb8, c6]
  exact zero _ hq
theorem rguard_head {g h2 : Heap} {vl vt : AV} {l : List IOp} {to : List Int} {b8 b2 : Nat} {o : IOp} {u w w5 w6 : AV} {Q : Exit → Env → Heap → Prop} (hr : TwoO g vl l vt to h2) (hb6 : h2 b8 = none) (hR : renOK to o) (h6 : o.code ≤ 6)
  (T : ∀ H, H = Ab.upd h2 b8 ⟨(ren to o).cells, 0⟩ → wpc Tryz.prog G Tryz.f42.ntmps C42_37 Q [(1, u), (2, .ptr b2 0), (3, vl), (4, vt), (5, w5), (6, w6), (7, w), (8, .ptr b8 0)] H) :
  wpc Tryz.prog G Tryz.f42.ntmps C42_39 Q [(1, u), (2, .ptr b2 0), (3, vl), (4, vt), (5, w5), (6, w6), (7, w), (8, .ptr b8 0)] (Ab.upd h2 b8 ⟨o.cells, 0⟩) := by
 obtain ⟨hR1, hR2⟩ := hR
 show wpc _ _ _ (.seq [1, 2, 3, 4, 5, 6, 7, 8] C42_13 (.seq [1, 2, 3, 4, 5, 6, 7, 8] C42_17 C42_37)) _ _ _
 generalize C42_37 = Y at T ⊢
 by_cases g3 : o.code = 3 ∨ o.code = 5 ∨ o.code = 6
 ·obtain ⟨⟨q1, q2⟩, q3, q4⟩ := hR1 g3
  obtain ⟨bt, pre, cap, sp, rfl, e2, e3⟩ := hr.lieT (by omega)
  have f5 : ¬ bt = b8 := fun e => by rw [← e, e2] at hb6; cases hb6
  have q5 : o.a.toNat < to.length := by omega
  have q6 : o.b.toNat < to.length := by omega
  rcases g3 with g | g | g <;>
  ·simp (disch := omega) only [push_cast, simprocAttr, wrap_i64, toNat_ofInt64, Nat.min_eq_left, Int.toNat_of_nonneg, upd_at, f5, e2, q1, q2, q3, q4, q5, q6, g]
   rw [show ren to o = ⟨o.code, to.getD o.a.toNat 0, to.getD o.b.toNat 0, o.imm, o.x, o.y⟩ from by unfold ren; rw [if_pos (by omega)], g] at T
   exact T _ rfl
 ·by_cases g4 : o.code = 4
  ·obtain ⟨q1, q2⟩ := hR2 g4
   obtain ⟨bt, pre, cap, sp, rfl, e2, e3⟩ := hr.lieT (by omega)
   have f5 : ¬ bt = b8 := fun e => by rw [← e, e2] at hb6; cases hb6
   have q5 : o.a.toNat < to.length := by omega
   simp (disch := omega) only [push_cast, simprocAttr, wrap_i64, toNat_ofInt64, Nat.min_eq_left, Int.toNat_of_nonneg, upd_at, f5, e2, q1, q2, q5, g4]
   rw [show ren to o = ⟨o.code, to.getD o.a.toNat 0, o.b, o.imm, o.x, o.y⟩ from by unfold ren; rw [if_neg g3, if_pos g4], g4] at T
   exact T _ rfl
  ·have g5 : ¬ o.code = 3 := by omega
   have g6 : ¬ o.code ≥ 3 := by omega
   have g7 : ¬ o.code ≥ 5 := by omega
   simp (disch := omega) only [push_cast, simprocAttr, wrap_i64, toNat_ofInt64, Nat.min_eq_left, Int.toNat_of_nonneg, g4, g5, g6, g7]
   rw [show ren to o = o from by unfold ren; rw [if_neg g3, if_neg g4]] at T
   exact T _ rfl
end Go.Ab
end
section
namespace Go.Ab
open Go.Proofs
variable {G : Glo} {h : Heap}
theorem renE_more {to : List Int} {e : IEx} (x : Int) (ok : exOK to e) : exOK (to ++ [x]) e ∧ renE (to ++ [x]) e = renE to e := by
 refine ⟨⟨ok.1.imp id fun h => ⟨h.1, by simp; omega⟩, fun v hv => by have := ok.2 v hv; exact ⟨this.1, by simp; omega⟩⟩, ?_⟩
 unfold renE
 have hmap : e.map.map (renV (to ++ [x])) = e.map.map (renV to) := by
  refine List.map_congr_left fun v hv => ?_
  have := ok.2 v hv
  unfold renV
  rw [getD_lt (by omega)]
 rw [hmap]
 rcases ok.1 with c | c
 ·rw [if_pos c, if_pos c]
 ·rw [getD_lt (by omega)]
theorem rguardDo_spec (b : IBk) (hw : b.wf) (hc : b.check = 0) : Spec Tryz.prog G 42 [.agg b.cells] h (Is (.agg b.gd.cells) h) := by
 obtain ⟨hops, hexs⟩ := right_parts hc
 obtain ⟨hs1, hs2, hs3⟩ := hw.hs
 refine Spec.is C42ok rfl ?_
 simp only [push_cast, simprocAttr]
 intro b2 hb2 b8 hb8 b9 hb9
 have i1 : Own 6 (Ab.upd h b2 ⟨[.nils, .nils, .nils, .int .i64 0], 0⟩) (.sl b8 0 0 0) [] 0 _ := own_new hb8
 have i2 : Own 1 _ (.sl b9 0 0 0) [] 0 _ := own_new hb9
 refine lpc.rel [1, 2, 3, 4, 5, 6, 7] (fun m ρ h' => ∃ (k : Nat) (vl vt : AV) (s : Ps) (to' : List Int) (last : Int) (en : Bool), m = (if en then 0 else b.ops.length - k + 1) ∧ k ≤ b.ops.length ∧ TwoO (Ab.upd h b2 ⟨[.nils, .nils, .nils, .int .i64 0], 0⟩) vl s.l vt to' h' ∧
  (if en then gScan b.last b.ops ⟨[], []⟩ = (s, last) ∧ ∃ x, to' = s.to ++ [x] else s = psN gF (b.ops.take k) ∧ to' = s.to ∧ last = b.last ∧ gScan b.last b.ops ⟨[], []⟩ = gScan b.last (b.ops.drop k) s) ∧
  ρ = [(1, .cp b.cells 0), (2, .ptr b2 0), (3, vl), (4, vt), (5, .int .i64 last), (6, .bool en), (7, .int .i64 (k : Int))]) ⟨_, 0, _, _, ⟨[], []⟩, [], b.last, false, rfl, by omega, ⟨_, i1, i2⟩, ⟨rfl, rfl, rfl, rfl⟩, rfl⟩ ?_
 rintro m _ h2 ⟨k, vl, vt, s, to', last, en, rfl, hk, hr, hs, rfl⟩
 have fin : ∀ S L, gScan b.last b.ops ⟨[], []⟩ = (S, L) → ∀ T, (T = S.to ∨ ∃ x, T = S.to ++ [x]) → ∀ vl vt H, TwoO (Ab.upd h b2 ⟨[.nils, .nils, .nils, .int .i64 0], 0⟩) vl S.l vt T H →
   wpc Tryz.prog G Tryz.f42.ntmps C42_51 (retQ C42r (IsS (.agg b.gd.cells) h)) [(1, .cp b.cells 0), (2, .ptr b2 0), (3, vl), (4, vt), (5, .int .i64 L)] H := by
  intro S L hSL T hT vl vt H hr
  obtain ⟨m, hm, q1, q2⟩ := gScan_at b.ops b.last b.ops.length 0 (by omega)
  rw [List.drop_zero, List.take_zero] at q1 q2
  have e0 : psN gF [] = ⟨[], []⟩ := rfl
  rw [e0] at q1 q2
  have e2 : b.exit (gScan b.last b.ops ⟨[], []⟩).2 m = true := by
   rcases q2 with ⟨h1, h2⟩ | ⟨h1, h2, h3, h4⟩
   ·rw [h2, h1]
    have := chk_right hc
    simp only [IBk.right, Bool.and_eq_true] at this
    exact this.2
   ·rw [h4]
    exact opR_takes (hops _ h1) (.inl ⟨by omega, rfl⟩)
  obtain ⟨k1, k2⟩ := gd_exits hc hm q1 e2
  have hgd : b.gd = prB b.pcs (psN gF (b.ops.take m)).l b.exits (gScan b.last b.ops ⟨[], []⟩).2 (renE (psN gF (b.ops.take m)).to) := by unfold IBk.gd; rw [q1]
  have hll := psN_l gF (b.ops.take m)
  rw [List.length_take] at hll
  have htl : (psN gF (b.ops.take m)).to.length = m := by rw [psN_to, List.length_take]; omega
  have hlast := (exit_parts e2).1
  rw [hSL] at q1 e2 k2 hgd hlast
  simp only at q1 e2 k2 hgd hlast
  rw [← q1] at k1 k2 hgd hll htl
  have hag : AgV b m S.to S.to := ⟨htl, fun _ _ _ => rfl⟩
  have hE : ∀ n : Nat, namedX S.l L n = true → exOK T (b.exits.getD n IEx.zero) ∧ renE T (b.exits.getD n IEx.zero) = renE S.to (b.exits.getD n IEx.zero) := by
   intro n hn
   obtain ⟨i, p1, p2⟩ := k2 n hn
   have := (hag.exit p1 p2).1
   rcases hT with rfl | ⟨x, rfl⟩
   ·exact ⟨this, rfl⟩
   ·exact renE_more x this
  have hex : prB b.pcs S.l b.exits L (renE S.to) = prB b.pcs S.l b.exits L (renE T) := by
   unfold prB
   congr 1
   unfold keptE
   rw [List.map_map, List.map_map]
   refine List.map_congr_left fun n hn => ?_
   rw [List.mem_filter] at hn
   exact (hE n hn.2).2.symm
  rw [hgd, hex]
  have kX := fun h : Heap => rnamedX_spec (G := G) (h := h) (pcs := b.pcs) (l := S.l) (es := b.exits) (last := L) (to := T) (by omega) hs2 (fun k hk => getD_map (n := k) hs3) hlast (fun j hj => by
   obtain ⟨i, q1, q2, q3⟩ := k1 j hj
   refine ⟨?_, fun h4 => (exit_parts (q3 _ (.inl ⟨h4, rfl⟩))).1, fun h5 => (exit_parts (q3 _ (.inr ⟨h5, rfl⟩))).1⟩
   rw [q2, ren_code]
   have := kind_of (hops i (by omega))
   unfold kindN at this
   simp only at this
   (repeat' split at this) <;> first | omega | (cases this)) (fun n hn hm => (hE n hm).1)
  have hcl : [AV.ro (wds b.pcs) b.pcs.length, AV.ro (S.l.flatMap IOp.cells) S.l.length, exs b.exits, .int .i64 L] = IBk.cells ⟨b.pcs, S.l, b.exits, L⟩ := rfl
  simp only [push_cast, simprocAttr]
  refine hr.freeze fun h1 o1 => ?_
  simp only [push_cast, simprocAttr]
  refine wkQ.own o1 ?_
  simp only [push_cast, simprocAttr]
  rw [hcl]
  refine (kX _).to ?_
  simp only [push_cast, simprocAttr]
  exact sub_upd hb2 (.refl _)
 show wpc _ _ _ (.seq [1, 2, 3, 4, 5, 6, 7] C42_8 (.seq [1, 2, 3, 4, 5, 6, 7] (.block 1 (.seq [1, 2, 3, 4, 5, 6, 7, 8] C42_9 C42_39)) C42_42)) _ _ _
 by_cases hk2 : k < b.ops.length
 ·cases en with
  | true =>
   obtain ⟨h1, h3⟩ := hs
   have := fin s last h1 to' (.inr h3) vl vt h2 hr
   generalize C42_51 = Y at this ⊢
   simp only [push_cast, simprocAttr, hk2]
   exact this
  | false =>
   obtain ⟨rfl, rfl, rfl, hsc⟩ := hs
   clear fin
   have hdr : b.ops.drop k = b.ops.getD k IOp.zero :: b.ops.drop (k + 1) := by
    rw [List.drop_eq_getElem_cons hk2]; congr 1; simp [hk2]
   rw [hdr, gScan] at hsc
   have hst := psstep_eq gF (psN gF (b.ops.take k)) (b.ops.getD k IOp.zero)
   rw [← psN_succ gF b.ops k hk2] at hst hsc
   have htl : (psN gF (b.ops.take k)).to.length = k := by rw [psN_to, List.length_take]; omega
   have hll := psN_l gF (b.ops.take k)
   rw [List.length_take] at hll
   have hok := renOK_of (hops k hk2) htl
   have h6 := code_le6 (hops k hk2)
   have hi := psren_good (ps_inv gF_ok hc k (by omega)) (good_of (hops k hk2))
   have hkd := kind_of (hops k hk2)
   rw [← kind_ren (psN gF (b.ops.take k)).to] at hkd
   generalize psN gF (b.ops.take k) = f at *
   generalize hS1 : psN gF (b.ops.take (k + 1)) = f1 at *
   generalize hO : b.ops.getD k IOp.zero = o at *
   have gfe : gF f.l (ren f.to o) = if (ren f.to o).code = 6 ∧ gk f.l (ren f.to o) = 1 then ((f.l.length : Int), ren f.to o) else (-1, ren f.to o) := rfl
   have g2 : ∀ b6, h2 b6 = none → Ab.upd h b2 ⟨[.nils, .nils, .nils, .int .i64 0], 0⟩ b6 = none := fun b6 h => hr.none h
   have M := fun b6 (hb6 : h2 b6 = none) Q hq => rguard_head (G := G) (b2 := b2) (b8 := b6) (u := .cp b.cells 0) (w5 := .int .i64 b.last) (w6 := .bool false) (w := .int .i64 (k : Int)) (Q := Q) hr hb6 hok h6 fun H hH => by
    subst hH
    exact rguard_mid (hr.upd (x := ⟨(ren f.to o).cells, 0⟩) (.inl hb6)) (by omega) (by omega) (fun e6 => ⟨kind_guard e6 hkd, ⟨(hi.1 (.inr (.inr e6))).1.1, (hi.1 (.inr (.inr e6))).1.2.2.1⟩, (hi.1 (.inr (.inr e6))).2.1, (hi.1 (.inr (.inr e6))).2.2.2.1⟩) hq
   generalize ren f.to o = o1 at *
   generalize C42_39 = Y at M ⊢
   simp only [push_cast, simprocAttr, hk2, hO]
   intro b6 hb6
   refine M b6 hb6 _ fun ρ vl' vt' x H' l1 l2 l3 l4 l5 l6 l7 hr' => ?_
   obtain ⟨H1, s1, hr2⟩ := hr'.drop (g2 b6 hb6)
   have hhow : howN f.l o1 = if o1.code = 6 then gk f.l o1 else 0 := rfl
   have hrng := gk_rng f.l o1
   by_cases c2 : o1.code = 6 ∧ gk f.l o1 = 2
   ·have hh : howN f.l o1 = 2 := by rw [hhow, if_pos c2.1, c2.2]
    rw [if_pos c2] at hsc
    rw [hh] at l5 l6 hr2
    rw [if_pos rfl] at l5
    rw [decide_eq_true rfl] at l6
    rw [if_neg (by omega)] at hr2
    simp (disch := omega) only [push_cast, simprocAttr, wrap_i64, toNat_ofInt64, Nat.min_eq_left, Int.toNat_of_nonneg, l1, l2, l3, l4, l5, l6, l7]
    exact ⟨_, H1, by simp, s1, k + 1, vl', vt', f, _, o1.x, true, rfl, by omega, hr2, ⟨hsc, _, rfl⟩, rfl⟩
   ·rw [if_neg c2] at hsc
    have key : howN f.l o1 ≠ 2 ∧ (if howN f.l o1 = 0 then f.l ++ [o1] else f.l) = f1.l ∧ f.to ++ [(f.l.length : Int)] = f1.to := by
     rw [hhow, hst, gfe]
     by_cases c6 : o1.code = 6
     ·rw [if_pos c6]
      rcases hrng with q | q | q
      ·rw [q]; simp
      ·rw [q]; simp [c6]
      ·exact absurd ⟨c6, q⟩ c2
     ·rw [if_neg c6]; simp [c6]
    obtain ⟨y1, y2, y3⟩ := key
    rw [if_neg y1] at l5
    rw [decide_eq_false y1] at l6
    rw [y2, y3] at hr2
    simp (disch := omega) only [push_cast, simprocAttr, wrap_i64, toNat_ofInt64, Nat.min_eq_left, Int.toNat_of_nonneg, l1, l2, l3, l4, l5, l6, l7]
    exact ⟨_, H1, by simp; omega, s1, k + 1, vl', vt', f1, _, b.last, false, rfl, by omega, hr2, ⟨hS1.symm, rfl, rfl, hsc⟩, rfl⟩
 ·obtain rfl : k = b.ops.length := by omega
  have hSL : ∃ S, gScan b.last b.ops ⟨[], []⟩ = (S, last) ∧ S.l = s.l ∧ (to' = S.to ∨ ∃ x, to' = S.to ++ [x]) := by
   cases en with
   | true => exact ⟨s, hs.1, rfl, .inr hs.2⟩
   | false =>
    obtain ⟨rfl, rfl, rfl, hsc⟩ := hs
    rw [List.drop_length, gScan] at hsc
    exact ⟨_, hsc, rfl, .inl rfl⟩
  obtain ⟨S, h1, h3, h4⟩ := hSL
  rw [← h3] at hr
  have := fin S last h1 to' h4 vl vt h2 hr
  generalize C42_51 = Y at this ⊢
  simp only [push_cast, simprocAttr, hk2]
  exact this
end Go.Ab
end
section
namespace Go.Ab
open Go.Proofs
variable {G : Glo} {h : Heap}
theorem rown_spec (b : IBk) (v : IVl) (h0 : 0 ≤ v.val) (h1 : v.val < b.ops.length) : Spec Tryz.prog G 86 [.agg b.cells, .agg v.cells] h (Is (.bool (ownV b v)) h) := by
 have q : v.val.toNat < b.ops.length := by omega
 have hO : ownV b v = (decide ((b.ops.getD v.val.toNat IOp.zero).code = 1) && decide (((b.ops.getD v.val.toNat IOp.zero).imm.toNat : Int) = v.reg)) := rfl
 rw [hO]
 refine Spec.is C86ok rfl ?_
 generalize hg : b.ops.getD v.val.toNat IOp.zero = o
 have hw : IntKind.i64.wrap (o.imm.toNat : Int) = o.imm.toNat := wrap_i64 (by omega) (by omega)
 have e1 : (o.code == 1) = decide (o.code = 1) := rfl
 have e2 : ((o.imm.toNat : Int) == v.reg) = decide ((o.imm.toNat : Int) = v.reg) := rfl
 generalize decide (o.code = 1) = x1 at *
 generalize decide ((o.imm.toNat : Int) = v.reg) = x2 at *
 cases x1 <;>
 ·simp (disch := omega) only [push_cast, simprocAttr, wrap_i64, toNat_ofInt64, Nat.min_eq_left, Int.toNat_of_nonneg, h0, h1, q, hg, e1, e2, hw]
  try rfl
def usB (o : IOp) (k : Nat) : Bool := decide ((k : Int) ∈ usesN o)
theorem ruses_spec (o : IOp) (k : Nat) (h6 : o.code ≤ 6) : Spec Tryz.prog G 119 [.agg o.cells, .int .i64 k] h (Is (.bool (usB o k)) h) := by
 unfold usB usesN
 have ea : (o.a == (k : Int)) = decide ((k : Int) = o.a) := by rw [Bool.eq_iff_iff, beq_iff_eq, decide_eq_true_eq]; exact eq_comm
 have eb : (o.b == (k : Int)) = decide ((k : Int) = o.b) := by rw [Bool.eq_iff_iff, beq_iff_eq, decide_eq_true_eq]; exact eq_comm
 refine Spec.is C119ok rfl ?_
 by_cases c : o.code = 3 ∨ o.code = 5 ∨ o.code = 6
 ·rw [if_pos c]
  have hm : decide ((k : Int) ∈ [o.a, o.b]) = (decide ((k : Int) = o.a) || decide ((k : Int) = o.b)) := by rw [Bool.eq_iff_iff]; simp
  rw [hm]
  generalize decide ((k : Int) = o.a) = x1 at *
  generalize decide ((k : Int) = o.b) = x2 at *
  rcases c with c | c | c <;> cases x1 <;> cases x2 <;>
  ·simp only [push_cast, simprocAttr, c, ea, eb]
   try rfl
 ·rw [if_neg c]
  by_cases c4 : o.code = 4
  ·rw [if_pos c4]
   have hm : decide ((k : Int) ∈ [o.a]) = decide ((k : Int) = o.a) := by rw [Bool.eq_iff_iff]; simp
   rw [hm]
   generalize decide ((k : Int) = o.a) = x1 at *
   cases x1 <;>
   ·simp only [push_cast, simprocAttr, c4, ea]
    try rfl
  ·rw [if_neg c4]
   have c3 : ¬ o.code ≥ 3 := by omega
   have c3' : ¬ o.code = 3 := by omega
   have c5 : ¬ o.code ≥ 5 := by omega
   simp only [push_cast, simprocAttr, c3, c3', c5]
   simp [c3']
theorem rplace_spec (kp : Nat → Bool) (mo : List Bool) (hmo : ∀ i, i < mo.length → mo.getD i false = kp i) (hl : mo.length ≤ 1000000000000) (at_ : Int) (h0 : 0 ≤ at_) (h1 : at_ ≤ mo.length) :
  Spec Tryz.prog G 85 [.ro (bos mo) mo.length, .int .i64 at_] h (Is (.int .i64 (plN kp at_.toNat)) h) := by
 obtain ⟨n, rfl⟩ : ∃ n : Nat, at_ = n := ⟨at_.toNat, by omega⟩
 rw [Int.toNat_natCast]
 refine Spec.is C85ok rfl ?_
 simp only [push_cast, simprocAttr]
 refine lpc.rel [0, 1, 5, 6] (fun m ρ h' => ∃ k : Nat, m = n - k ∧ k ≤ n ∧ h = h' ∧ ρ = [(0, .ro (bos mo) mo.length), (1, .int .i64 n), (5, .int .i64 (plN kp k : Int)), (6, .int .i64 (k : Int))]) ⟨_, 0, rfl, by omega, rfl, rfl⟩ ?_
 rintro m _ _ ⟨k, rfl, hk, rfl, rfl⟩
 have hs := plN_succ kp k
 have hle := plN_le kp k
 by_cases hk2 : k < n
 ·have q : k < mo.length := by omega
  have hg := hmo k q
  cases hv : kp k with
  | true =>
   rw [hv] at hs hg
   simp (disch := omega) only [push_cast, simprocAttr, wrap_i64, toNat_ofInt64, Nat.min_eq_left, Int.toNat_of_nonneg, hk2, q, hg]
   exact ⟨_, _, by omega, .refl _, k + 1, rfl, by omega, rfl, by rw [hs]; rfl⟩
  | false =>
   rw [hv] at hs hg
   simp (disch := omega) only [push_cast, simprocAttr, wrap_i64, toNat_ofInt64, Nat.min_eq_left, Int.toNat_of_nonneg, hk2, q, hg]
   exact ⟨_, _, by omega, .refl _, k + 1, rfl, by omega, rfl, by rw [hs]; rfl⟩
 ·obtain rfl : k = n := by omega
  simp only [push_cast, simprocAttr, hk2]
def ExAsk (b : IBk) (k : Nat) (n : Nat) : Prop := namedX b.ops b.last n = true ∧ ((b.ex n).to = k ∨ ∃ m, m < (b.ex n).map.length ∧ ((b.ex n).vl m).val = k ∧ ownV b ((b.ex n).vl m) = false)
noncomputable def exB (b : IBk) (k : Nat) : Bool := @decide (∃ n, n < b.exits.length ∧ ExAsk b k n) (Classical.propDecidable _)
theorem exB_true {b : IBk} {k n : Nat} (hn : n < b.exits.length) (h : ExAsk b k n) : exB b k = true := by unfold exB; exact (@decide_eq_true_iff _ (Classical.propDecidable _)).2 ⟨n, hn, h⟩
theorem exB_false {b : IBk} {k : Nat} (h : ∀ n, n < b.exits.length → ¬ ExAsk b k n) : exB b k = false := by
 unfold exB; exact @decide_eq_false _ (Classical.propDecidable _) fun ⟨n, h1, h2⟩ => h n h1 h2
theorem rexits_spec (b : IBk) (hw : b.wf) (hc : b.check = 0) (k : Nat) : Spec Tryz.prog G 118 [.agg b.cells, .int .i64 k] h (Is (.bool (exB b k)) h) := by
 obtain ⟨hops, hexs⟩ := right_parts hc
 obtain ⟨hs1, hs2, hs3⟩ := hw.hs
 have kN := fun (n : Nat) (h : Heap) => rNamed_spec (G := G) (h := h) b n hs1
 have hpa : partOf b.cells 0 (some 4) = some (.agg b.cells) := partOf_all rfl
 refine Spec.is C118ok rfl ?_
 simp only [push_cast, simprocAttr]
 refine lpc.rel [1, 2, 5] (fun m ρ h' => ∃ n : Nat, m = b.exits.length - n ∧ n ≤ b.exits.length ∧ h = h' ∧ (∀ i, i < n → ¬ ExAsk b k i) ∧ ρ = [(1, .int .i64 k), (2, .cp b.cells 0), (5, .int .i64 (n : Int))]) ⟨_, 0, rfl, by omega, rfl, fun i hi => by omega, rfl⟩ ?_
 rintro m _ _ ⟨n, rfl, hn, rfl, hall, rfl⟩
 have hmore : ¬ ExAsk b k n → ∀ i, i < n + 1 → ¬ ExAsk b k i := fun q i hi => by
  by_cases e : i = n
  ·rw [e]; exact q
  ·exact hall i (by omega)
 by_cases hn2 : n < b.exits.length
 ·have hok := exOK_of (hexs n hn2) (to := List.replicate b.ops.length 0) (by simp)
  have ep := exs_p b.exits n
  rw [if_pos hn2] at ep
  have hml := getD_map (n := n) hs3
  simp only [push_cast, simprocAttr, hn2, hpa]
  refine (kN n _).to ?_
  cases hv : namedX b.ops b.last n with
  | false =>
   simp (disch := omega) only [push_cast, simprocAttr, wrap_i64, toNat_ofInt64, Nat.min_eq_left, Int.toNat_of_nonneg]
   exact ⟨_, _, by omega, .refl _, n + 1, rfl, by omega, rfl, (hmore fun q => by rw [q.1] at hv; cases hv), rfl⟩
  | true =>
   simp only [push_cast, simprocAttr, ep, hn2]
   intro b6 hb6
   rw [era_none hb6]
   have hdf : ExAsk b k n ↔ ((b.exits.getD n IEx.zero).to = k ∨ ∃ m, m < (b.exits.getD n IEx.zero).map.length ∧ ((b.exits.getD n IEx.zero).map.getD m IVl.zero).val = k ∧ ownV b ((b.exits.getD n IEx.zero).map.getD m IVl.zero) = false) := by
    unfold ExAsk; rw [hv]; exact ⟨fun q => q.2, fun q => ⟨rfl, q⟩⟩
   generalize b.exits.getD n IEx.zero = e at *
   by_cases ct : e.to = k
   ·have := exB_true hn2 (hdf.2 (.inl ct))
    rw [this]
    simp only [push_cast, simprocAttr, ct]
   ·simp only [push_cast, simprocAttr, ct]
    refine lpc.rel [1, 2, 5, 6, 7] (fun m ρ h' => ∃ j : Nat, m = e.map.length - j ∧ j ≤ e.map.length ∧ h = h' ∧ (∀ i, i < j → ¬ ((e.map.getD i IVl.zero).val = k ∧ ownV b (e.map.getD i IVl.zero) = false)) ∧
     ρ = [(1, .int .i64 k), (2, .cp b.cells 0), (5, .int .i64 (n : Int)), (6, .cp e.cells 0), (7, .int .i64 (j : Int))]) ⟨_, 0, rfl, by omega, rfl, fun i hi => by omega, rfl⟩ ?_
    rintro m _ _ ⟨j, rfl, hj, rfl, hallj, rfl⟩
    by_cases hj2 : j < e.map.length
    ·have hr := exOK_get hok hj2
     rw [List.length_replicate] at hr
     have kO := fun h : Heap => rown_spec (G := G) (h := h) b (e.map.getD j IVl.zero) hr.1 hr.2
     have ev : ((e.map.getD j IVl.zero).val == (k : Int)) = decide ((e.map.getD j IVl.zero).val = k) := rfl
     have hnext : ¬ ((e.map.getD j IVl.zero).val = k ∧ ownV b (e.map.getD j IVl.zero) = false) → ∀ i, i < j + 1 → ¬ ((e.map.getD i IVl.zero).val = k ∧ ownV b (e.map.getD i IVl.zero) = false) := fun q i hi => by
      by_cases e : i = j
      ·rw [e]; exact q
      ·exact hallj i (by omega)
     by_cases cv : (e.map.getD j IVl.zero).val = k
     ·rw [decide_eq_true cv] at ev
      cases ho : ownV b (e.map.getD j IVl.zero) with
      | true =>
       rw [ho] at kO
       simp only [push_cast, simprocAttr, hj2, ev, hpa]
       refine (kO _).to ?_
       simp (disch := omega) only [push_cast, simprocAttr, wrap_i64, toNat_ofInt64, Nat.min_eq_left, Int.toNat_of_nonneg, hj2, ev, hpa]
       exact ⟨_, _, by omega, .refl _, j + 1, rfl, by omega, rfl, (hnext fun q => by rw [ho] at q; cases q.2), rfl⟩
      | false =>
       rw [ho] at kO
       have := exB_true hn2 (hdf.2 (.inr ⟨j, hj2, cv, ho⟩))
       rw [this]
       simp only [push_cast, simprocAttr, hj2, ev, hpa]
       refine (kO _).to ?_
       simp (disch := omega) only [push_cast, simprocAttr, wrap_i64, toNat_ofInt64, Nat.min_eq_left, Int.toNat_of_nonneg, hj2, ev, hpa]
     ·rw [decide_eq_false cv] at ev
      simp (disch := omega) only [push_cast, simprocAttr, wrap_i64, toNat_ofInt64, Nat.min_eq_left, Int.toNat_of_nonneg, hj2, ev, hpa]
      exact ⟨_, _, by omega, .refl _, j + 1, rfl, by omega, rfl, hnext fun q => cv q.1, rfl⟩
    ·obtain rfl : j = e.map.length := by omega
     simp (disch := omega) only [push_cast, simprocAttr, wrap_i64, toNat_ofInt64, Nat.min_eq_left, Int.toNat_of_nonneg, hj2]
     exact ⟨_, _, by omega, .refl _, n + 1, rfl, by omega, rfl, hmore fun q => by
      rcases hdf.1 q with q | ⟨m, q1, q2⟩
      ·exact ct q
      ·exact hallj m q1 q2, rfl⟩
 ·obtain rfl : n = b.exits.length := by omega
  rw [exB_false hall]
  simp only [push_cast, simprocAttr, hn2]
end Go.Ab
end
section
namespace Go.Ab
open Go.Proofs
variable {G : Glo} {h : Heap}
theorem ask_okS (b : IBk) : OkS b (fun j => askN b j = true) :=
 ⟨fun j hj hA u hu => (askN_iff b _).2 fun S hS => hS.closed j hj ((askN_iff b _).1 hA S hS) u hu, fun k hk h4 => (askN_iff b _).2 fun S hS => hS.acts k hk h4,
  fun n hn hm ht => (askN_iff b _).2 fun S hS => hS.to n hn hm ht, fun n hn hm v hv ho => (askN_iff b _).2 fun S hS => hS.map n hn hm v hv ho⟩
theorem uses_ahead {b : IBk} (hc : b.check = 0) {j : Nat} (hj : j < b.ops.length) {u : Int} (hu : u ∈ usesN (b.op j)) : 0 ≤ u ∧ u < j := by
 have hr := renOK_of ((right_parts hc).1 j hj) (to := List.replicate j 0) (by simp)
 change renOK _ (b.op j) at hr
 obtain ⟨h1, h2⟩ := hr
 rw [List.length_replicate] at h1 h2
 unfold usesN at hu
 split at hu
 ·rename_i c
  obtain ⟨p, q⟩ := h1 c
  simp only [List.mem_cons, List.not_mem_nil, or_false] at hu
  rcases hu with rfl | rfl
  ·exact p
  ·exact q
 ·split at hu
  ·rename_i c4
   simp only [List.mem_cons, List.not_mem_nil, or_false] at hu
   subst hu; exact h2 c4
  ·cases hu
theorem askN_eq {b : IBk} (hc : b.check = 0) {k : Nat} (hk : k < b.ops.length) : askN b k = true ↔ (4 ≤ (b.op k).code ∨ exB b k = true) ∨ ∃ i, k < i ∧ i < b.ops.length ∧ askN b i = true ∧ usB (b.op i) k = true := by
 have hA := ask_okS b
 have hexs := (right_parts hc).2
 have hE : ∀ n, n < b.exits.length → exOK (List.replicate b.ops.length 0) (b.ex n) := fun n hn => exOK_of (hexs n hn) (by simp)
 have us : ∀ i : Nat, i < b.ops.length → usB (b.op i) k = true → (k : Int) ∈ usesN (b.op i) := fun i _ h => of_decide_eq_true h
 constructor
 ·intro hask
  refine Classical.byContradiction fun hno => ?_
  rw [askN_iff] at hask
  refine (hask (fun j => askN b j = true ∧ j ≠ k) ⟨fun j hj hjA u hu => ⟨hA.closed j hj hjA.1 u hu, fun e => hno (.inr ⟨j, ?_, hj, hjA.1, ?_⟩)⟩, fun j hj h4 => ⟨hA.acts j hj h4, fun e => hno (.inl (.inl (e ▸ h4)))⟩,
   fun n hn hm ht => ⟨hA.to n hn hm ht, fun e => hno (.inl (.inr ?_))⟩, fun n hn hm v hv ho => ⟨hA.map n hn hm v hv ho, fun e => hno (.inl (.inr ?_))⟩⟩).2 rfl
  ·have := uses_ahead hc hj hu
   omega
  ·have := uses_ahead hc hj hu
   have : u = (k : Int) := by omega
   subst this
   exact decide_eq_true hu
  ·have := (hE n hn).1.resolve_left ht
   exact exB_true hn ⟨hm, .inl (by omega)⟩
  ·obtain ⟨m, hm2, rfl⟩ := List.getElem_of_mem hv
   have hr := (hE n hn).2 _ hv
   have e1 : (b.ex n).vl m = (b.ex n).map[m] := by simp [IEx.vl, hm2]
   exact exB_true hn ⟨hm, .inr ⟨m, hm2, by rw [e1]; omega, by rw [e1]; exact ho⟩⟩
 ·rintro ((h4 | hx) | ⟨i, h1, h2, h3, h4⟩)
  ·exact hA.acts k hk h4
  ·unfold exB at hx
   obtain ⟨n, hn, hm, hx⟩ := (@decide_eq_true_iff _ (Classical.propDecidable _)).1 hx
   rcases hx with ht | ⟨m, q1, q2, q3⟩
   ·have := hA.to n hn hm (by omega)
    rw [ht] at this
    exact this
   ·have e1 : (b.ex n).vl m = (b.ex n).map[m] := by simp [IEx.vl, q1]
    have := hA.map n hn hm _ (List.getElem_mem q1) (by rw [← e1]; exact q3)
    rw [← e1, q2] at this
    exact this
  ·have := hA.closed i h2 h3 k (us i h2 h4)
   exact this
theorem bool_iff {a b : Bool} (h : a = true ↔ b = true) : a = b := by rw [Bool.eq_iff_iff]; exact h
theorem rAsked30_spec (b : IBk) (hw : b.wf) (hc : b.check = 0) : Spec Tryz.prog G 83 [.agg b.cells] h (Is (.ro (bos ((List.range b.ops.length).map (askN b))) b.ops.length) h) := by
 obtain ⟨hops, hexs⟩ := right_parts hc
 obtain ⟨hs1, hs2, hs3⟩ := hw.hs
 have hpa : partOf b.cells 0 (some 4) = some (.agg b.cells) := partOf_all rfl
 refine Spec.weak (Q := fun r h' => ∃ b3, h b3 = none ∧ r = .sl b3 0 b.ops.length b.ops.length ∧ h' = Ab.upd h b3 ⟨bos ((List.range b.ops.length).map (askN b)), 0⟩) ?_ ?_
 ·refine Spec.walk C83ok rfl ?_
  simp only [push_cast, simprocAttr]
  refine ⟨by omega, by omega, by omega, fun b3 hb3 => ?_⟩
  have hw1 : IntKind.i64.wrap ((b.ops.length : Int) - 1) = (b.ops.length : Int) - 1 := wrap_i64 (by omega) (by omega)
  have hrep : List.replicate b.ops.length (AV.bool false) = bos (List.replicate b.ops.length false) := by simp [bos]
  rw [hw1, hrep, Int.sub_self]
  refine lpc.rel [1, 3, 4] (fun m ρ h' => ∃ (k : Nat) (mo : List Bool), m = k ∧ k ≤ b.ops.length ∧ mo.length = b.ops.length ∧ (∀ j, k ≤ j → j < b.ops.length → mo.getD j false = askN b j) ∧ h' = Ab.upd h b3 ⟨bos mo, 0⟩ ∧
   ρ = [(1, .cp b.cells 0), (3, .sl b3 0 b.ops.length b.ops.length), (4, .int .i64 ((k : Int) - 1))]) ⟨_, b.ops.length, _, rfl, by omega, by simp, fun j h1 h2 => by omega, rfl, rfl⟩ ?_
  rintro k _ _ ⟨_, mo, rfl, hk, hml, hall, rfl, rfl⟩
  have hbb := upd_same h b3 ⟨bos mo, 0⟩
  match k, hk, hall with
  | 0, _, hall =>
   have hz : ¬ (((0 : Nat) : Int) - 1 ≥ 0) := by omega
   simp only [push_cast, simprocAttr, hz]
   refine ⟨b3, hb3, rfl, ?_⟩
   have : mo = (List.range b.ops.length).map (askN b) := by
    apply List.ext_getElem
    ·simp [hml]
    ·intro i h1 h2
     have := hall i (by omega) (by omega)
     simp [h1] at this
     simp [this]
   rw [this]
  | q + 1, hk, hall =>
   have hq : q < b.ops.length := by omega
   have hqm : q < mo.length := by omega
   have hqs : q + 1 ≤ mo.length := by omega
   have h6 := fun i hi => code_le6 (hops i hi)
   have heq := askN_eq hc hq
   have kX := fun h : Heap => rexits_spec (G := G) (h := h) b hw hc q
   have hcast : (((q + 1 : Nat) : Int) - 1) = (q : Int) := by omega
   rw [hcast]
   have g0 := ops_0 b.ops q
   rw [if_pos hq] at g0
   have mid : ∀ a : Bool, (a = true ↔ (4 ≤ (b.op q).code ∨ exB b q = true)) → ∀ Q : Exit → Env → Heap → Prop, (∀ mo' ρ, mo'.length = b.ops.length → (∀ j, q ≤ j → j < b.ops.length → mo'.getD j false = askN b j) → lk ρ 1 = .cp b.cells 0 → lk ρ 3 = .sl b3 0 b.ops.length b.ops.length → lk ρ 4 = .int .i64 (q : Int) → Q .normal ρ (Ab.upd h b3 ⟨bos mo', 0⟩)) →
     wpc Tryz.prog G Tryz.f83.ntmps C83_18 Q [(1, .cp b.cells 0), (3, .sl b3 0 b.ops.length b.ops.length), (4, .int .i64 (q : Int))] (Ab.upd h b3 ⟨bos (mo.set q a), 0⟩) := by
    intro a ha Q hQ
    simp (disch := omega) only [push_cast, simprocAttr, wrap_i64, toNat_ofInt64, Nat.min_eq_left, Int.toNat_of_nonneg]
    refine lpc.rel [1, 3, 4, 5] (fun m ρ h' => ∃ (i : Nat) (mo' : List Bool), m = b.ops.length - i ∧ q + 1 ≤ i ∧ i ≤ b.ops.length ∧ mo'.length = b.ops.length ∧ (∀ j, q < j → j < b.ops.length → mo'.getD j false = askN b j) ∧ (mo'.getD q false = true ↔ a = true ∨ ∃ i', q < i' ∧ i' < i ∧ askN b i' = true ∧ usB (b.op i') q = true) ∧ h' = Ab.upd h b3 ⟨bos mo', 0⟩ ∧
     ρ = [(1, .cp b.cells 0), (3, .sl b3 0 b.ops.length b.ops.length), (4, .int .i64 (q : Int)), (5, .int .i64 (i : Int))]) ⟨_, q + 1, _, rfl, by omega, by omega, by simpa using hml, fun j h1 h2 => ?_, ?_, rfl, rfl⟩ ?_
    ·rw [getD_setB, if_neg (fun e => by omega)]
     exact hall j (by omega) h2
    ·rw [getD_setB, if_pos ⟨rfl, hqm⟩]
     exact ⟨fun h => .inl h, fun h => h.elim id fun ⟨i', h1, h2, _⟩ => by omega⟩
    rintro m _ _ ⟨i, mo', rfl, hi1, hi2, hml', hall', hself, rfl, rfl⟩
    have hbb' := upd_same h b3 ⟨bos mo', 0⟩
    have hqm' : q < mo'.length := by omega
    have hqs' : q + 1 ≤ mo'.length := by omega
    by_cases hi3 : i < b.ops.length
    ·have him : i < mo'.length := by omega
     have hai := hall' i (by omega) hi3
     have kU := fun h : Heap => ruses_spec (G := G) (h := h) (b.ops.getD i IOp.zero) q (h6 i hi3)
     have ep := ops_p b.ops i
     rw [if_pos hi3] at ep
     have hbop : b.op i = b.ops.getD i IOp.zero := rfl
     have next : ∀ t : Bool, (t = true ↔ mo'.getD q false = true ∨ askN b i = true ∧ usB (b.op i) q = true) → (∀ j, q < j → j < b.ops.length → (mo'.set q t).getD j false = askN b j) ∧ ((mo'.set q t).getD q false = true ↔ a = true ∨ ∃ i', q < i' ∧ i' < i + 1 ∧ askN b i' = true ∧ usB (b.op i') q = true) := by
      intro t ht
      refine ⟨fun j h1 h2 => ?_, ?_⟩
      ·rw [getD_setB, if_neg (fun e => by omega)]
       exact hall' j h1 h2
      ·rw [getD_setB, if_pos ⟨rfl, hqm'⟩, ht, hself]
       constructor
       ·rintro ((h | ⟨i', h1, h2, h3⟩) | h)
        ·exact .inl h
        ·exact .inr ⟨i', h1, by omega, h3⟩
        ·exact .inr ⟨i, by omega, by omega, h⟩
       ·rintro (h | ⟨i', h1, h2, h3⟩)
        ·exact .inl (.inl h)
        ·by_cases e : i' = i
         ·subst e; exact .inr h3
         ·exact .inl (.inr ⟨i', h1, by omega, h3⟩)
     cases hsv : mo'.getD q false with
     | true =>
      rw [hsv] at next
      obtain ⟨n1, n2⟩ := next true (by simp)
      simp (disch := omega) only [push_cast, simprocAttr, wrap_i64, toNat_ofInt64, Nat.min_eq_left, Int.toNat_of_nonneg, hi3, hbb', hq, hqm', hqs', hsv]
      exact ⟨_, _, by omega, .refl _, i + 1, _, rfl, by omega, by omega, by simpa using hml', n1, n2, rfl, rfl⟩
     | false =>
      rw [hsv] at next
      cases hav : askN b i with
      | false =>
       rw [hav] at next hai
       obtain ⟨n1, n2⟩ := next false (by simp)
       simp (disch := omega) only [push_cast, simprocAttr, wrap_i64, toNat_ofInt64, Nat.min_eq_left, Int.toNat_of_nonneg, hi3, hbb', hq, hqm', hqs', hsv, him, hai]
       exact ⟨_, _, by omega, .refl _, i + 1, _, rfl, by omega, by omega, by simpa using hml', n1, n2, rfl, rfl⟩
      | true =>
       rw [hav] at next hai
       simp only [push_cast, simprocAttr, hi3, hbb', hq, hqm', hqs', hsv, him, hai, ep]
       refine (kU _).to ?_
       obtain ⟨n1, n2⟩ := next (usB (b.op i) q) (by simp)
       rw [← hbop]
       simp (disch := omega) only [push_cast, simprocAttr, wrap_i64, toNat_ofInt64, Nat.min_eq_left, Int.toNat_of_nonneg, hi3, hbb', hq, hqm', hqs']
       exact ⟨_, _, by omega, .refl _, i + 1, _, rfl, by omega, by omega, by simpa using hml', n1, n2, rfl, rfl⟩
    ·obtain rfl : i = b.ops.length := by omega
     simp only [push_cast, simprocAttr, hi3]
     refine hQ mo' _ hml' (fun j h1 h2 => ?_) rfl rfl rfl
     by_cases e : j = q
     ·subst e
      refine bool_iff ?_
      rw [hself, heq, ha]
     ·exact hall' j (by omega) h2
   show wpc _ _ _ (.seq [1, 3, 4] C83_5 (.seq [1, 3, 4] (.block 1 (.seq [1, 3, 4] C83_6 C83_18)) C83_21)) _ _ _
   generalize C83_18 = Y at mid ⊢
   have hbq : b.op q = b.ops.getD q IOp.zero := rfl
   rw [hbq] at mid
   have hq0 : (q : Int) ≥ 0 := by omega
   by_cases c4 : (b.ops.getD q IOp.zero).code ≥ 4
   ·simp only [push_cast, simprocAttr, hq0, hq, hqs, g0, c4, hbb]
    refine mid true (by simp; exact .inl c4) _ fun mo' ρ hm' ha' l1 l3 l4 => ?_
    simp (disch := omega) only [push_cast, simprocAttr, wrap_i64, toNat_ofInt64, Nat.min_eq_left, Int.toNat_of_nonneg, l1, l3, l4]
    exact ⟨_, _, by omega, .refl _, q, mo', rfl, by omega, hm', ha', rfl, rfl⟩
   ·simp only [push_cast, simprocAttr, hq0, hq, hqs, g0, c4, hbb, hpa]
    refine (kX _).to ?_
    simp only [push_cast, simprocAttr, hq0, hq, hqs, g0, c4, hbb, hpa]
    refine mid (exB b q) (by simp; intro h; exact absurd h c4) _ fun mo' ρ hm' ha' l1 l3 l4 => ?_
    simp (disch := omega) only [push_cast, simprocAttr, wrap_i64, toNat_ofInt64, Nat.min_eq_left, Int.toNat_of_nonneg, l1, l3, l4]
    exact ⟨_, _, by omega, .refl _, q, mo', rfl, by omega, hm', ha', rfl, rfl⟩
 ·rintro _ _ ⟨b3, hb3, rfl, rfl⟩
  refine ⟨_, _, ⟨rfl, rfl⟩, ?_⟩
  have := Le.freeze (g := h) (b := b3) (n := b.ops.length) (cap := b.ops.length) (pre := []) (cells := bos ((List.range b.ops.length).map (askN b))) (sp := 0) hb3 (fun e => by simp [bos, e])
  simpa using this
end Go.Ab
end
section
namespace Go.Ab
open Go.Proofs
variable {G : Glo} {h : Heap}
theorem kx_succ (kp : Nat → Bool) (b : IBk) (f : IOp → IOp) (n : Nat) : ((keptO kp b (n + 1)).map f).flatMap IOp.cells = if kp n then ((keptO kp b n).map f).flatMap IOp.cells ++ (f (ren (upk kp b.ops.length) (b.op n))).cells else ((keptO kp b n).map f).flatMap IOp.cells := by
 rw [keptO_succ]
 cases kp n <;> simp
theorem rdd_ops {g : Heap} {b6 b2 : Nat} (b : IBk) {kp nm : Nat → Bool} {kpl nml : List Bool} {P L : AV} {Q : Exit → Env → Heap → Prop} (hw : b.wf) (hc : b.check = 0) (hk1 : kpl.length = b.ops.length) (hk2 : ∀ i, i < kpl.length → kpl.getD i false = kp i) (hn1 : nml.length = b.exits.length) (hn2 : ∀ i, i < nml.length → nml.getD i false = nm i) (hg : g b6 = none)
  (hq : ∀ ρ v H', lk ρ 1 = .cp b.cells 0 → lk ρ 2 = .ptr b2 0 → lk ρ 3 = .ro (bos kpl) kpl.length → lk ρ 4 = .ro (bos nml) nml.length → lk ρ 6 = .ptr b6 0 → Own 6 (Ab.upd g b6 ⟨[P, v, .nils, L], 0⟩) v (((keptO kp b b.ops.length).map (reX (plN nm))).flatMap IOp.cells) (plN kp b.ops.length) H' → Q .normal ρ H') :
  wpc Tryz.prog G Tryz.f43.ntmps C43_53 Q [(1, .cp b.cells 0), (2, .ptr b2 0), (3, .ro (bos kpl) kpl.length), (4, .ro (bos nml) nml.length), (6, .ptr b6 0)] (Ab.upd g b6 ⟨[P, .nils, .nils, L], 0⟩) := by
 obtain ⟨hops, hexs⟩ := right_parts hc
 obtain ⟨hs1, hs2, hs3⟩ := hw.hs
 have kP := fun (x : Int) h0 h1 (h : Heap) => rplace_spec (G := G) (h := h) kp kpl hk2 (by omega) x h0 h1
 have kX := fun (x : Int) h0 h1 (h : Heap) => rplace_spec (G := G) (h := h) nm nml hn2 (by omega) x h0 h1
 simp only [push_cast, simprocAttr]
 refine lpc.rel [1, 2, 3, 4, 6, 7] (fun m ρ h' => ∃ (k : Nat) (v : AV), m = b.ops.length - k ∧ k ≤ b.ops.length ∧ Own 6 (Ab.upd g b6 ⟨[P, v, .nils, L], 0⟩) v (((keptO kp b k).map (reX (plN nm))).flatMap IOp.cells) (plN kp k) h' ∧
  ρ = [(1, .cp b.cells 0), (2, .ptr b2 0), (3, .ro (bos kpl) kpl.length), (4, .ro (bos nml) nml.length), (6, .ptr b6 0), (7, .int .i64 (k : Int))]) ⟨_, 0, .nils, rfl, by omega, .nil, rfl⟩ ?_
 rintro m _ h2 ⟨k, v, rfl, hk, hown, rfl⟩
 have hb6 := hown.get (upd_same _ _ _)
 by_cases hk3 : k < b.ops.length
 ·have hsn := kx_succ kp b (reX (plN nm)) k
  have hps := plN_succ kp k
  have hple := plN_le kp k
  have hkk : k < kpl.length := by omega
  have hgk := hk2 k hkk
  have h6 := code_le6 (hops k hk3)
  have hok := renOK_of (hops k hk3) (to := List.replicate k 0) (by simp)
  have htk := fun x ht => (exit_parts (opR_takes (hops k hk3) (x := x) ht)).1
  change renOK _ (b.op k) at hok
  have hO : b.ops.getD k IOp.zero = b.op k := rfl
  rw [hO] at h6 htk
  obtain ⟨hR1, hR2⟩ := hok
  rw [List.length_replicate] at hR1 hR2
  have fin : ∀ b8, h2 b8 = none → kp k = true → ∀ H, H = Ab.upd h2 b8 ⟨(reX (plN nm) (ren (upk kp b.ops.length) (b.op k))).cells, 0⟩ → ∀ Q', (∀ ρ v' H' h6, lk ρ 1 = .cp b.cells 0 → lk ρ 2 = .ptr b2 0 → lk ρ 3 = .ro (bos kpl) kpl.length → lk ρ 4 = .ro (bos nml) nml.length → lk ρ 6 = .ptr b6 0 → lk ρ 7 = .int .i64 (k : Int) → Sub h6 H' →
    Own 6 (Ab.upd g b6 ⟨[P, v', .nils, L], 0⟩) v' (((keptO kp b (k + 1)).map (reX (plN nm))).flatMap IOp.cells) (plN kp (k + 1)) h6 → Q' .normal ρ H') →
    wpc Tryz.prog G Tryz.f43.ntmps C43_40 Q' [(1, .cp b.cells 0), (2, .ptr b2 0), (3, .ro (bos kpl) kpl.length), (4, .ro (bos nml) nml.length), (6, .ptr b6 0), (7, .int .i64 (k : Int)), (8, .ptr b8 0)] H := by
   rintro b8 hb8 hkp H rfl Q' hq'
   rw [hkp] at hsn hps
   rw [if_pos rfl] at hsn hps
   have n1 : ¬ b6 = b8 := fun e => by rw [← e, hb6] at hb8; cases hb8
   have n2 : ¬ b8 = b6 := fun e => n1 e.symm
   generalize reX (plN nm) (ren (upk kp b.ops.length) (b.op k)) = o at *
   have ho' := Own.upd hown (b := b8) (x := ⟨o.cells, 0⟩) (.inl hb8)
   simp only [push_cast, simprocAttr, upd_at, n1, n2, hb6]
   refine Own.app ho' (m := 1) (IOp.len _) (by omega) (by omega) fun v4 h4 ho4 => ?_
   have hg8 := ho4.get (b := b6) (by rw [upd_ne n1]; exact upd_same _ _ _)
   simp (disch := omega) only [push_cast, simprocAttr, wrap_i64, toNat_ofInt64, Nat.min_eq_left, Int.toNat_of_nonneg, hg8, ho4.one]
   have ho5 := Own.upd ho4 (b := b6) (x := ⟨[P, v4, .nils, L], 0⟩) (.inr ⟨_, by rw [upd_ne n1]; exact upd_same _ _ _⟩)
   rw [upd_comm n2, upd_upd] at ho5
   obtain ⟨h6, hs6, ho6⟩ := Own.drop ho5 (by
    have := hown.sub.none hb8
    rw [upd_ne n2] at this
    rw [upd_ne n2]; exact this)
   exact hq' _ v4 _ h6 rfl rfl rfl rfl rfl rfl hs6 (by rw [hsn, hps]; exact ho6)
  show wpc _ _ _ (.seq [1, 2, 3, 4, 6, 7] C43_19 (.seq [1, 2, 3, 4, 6, 7] (.block 3 (.seq [1, 2, 3, 4, 6, 7, 8] C43_20 (.seq [1, 2, 3, 4, 6, 7, 8] C43_23 (.seq [1, 2, 3, 4, 6, 7, 8] C43_27 (.seq [1, 2, 3, 4, 6, 7, 8] C43_31 (.seq [1, 2, 3, 4, 6, 7, 8] C43_35 (.seq [1, 2, 3, 4, 6, 7, 8] C43_39 C43_40))))))) C43_48)) _ _ _
  generalize C43_40 = Y at fin ⊢
  cases hkp : kp k with
  | false =>
   rw [hkp] at hsn hps hgk
   simp only [push_cast, simprocAttr, hk3, hO]
   intro b8 hb8
   simp (disch := omega) only [push_cast, simprocAttr, wrap_i64, toNat_ofInt64, Nat.min_eq_left, Int.toNat_of_nonneg, hkk, hgk]
   exact ⟨_, _, by omega, (Sub.refl _).alloc hb8, k + 1, v, rfl, by omega, by rw [hsn, hps]; exact hown, rfl⟩
  | true =>
   rw [hkp] at hgk
   have fin := fun b8 hb8 => fin b8 hb8 hkp
   have hA : ∀ x : Int, 0 ≤ x → x < k → (upk kp b.ops.length).getD x.toNat 0 = (plN kp x.toNat : Int) := fun x h0 h1 => upk_get (by omega)
   generalize hoo : b.op k = o at *
   rcases (show o.code = 3 ∨ o.code = 4 ∨ o.code = 5 ∨ o.code = 6 ∨ o.code ≤ 2 by omega) with c | c | c | c | c
   ·obtain ⟨⟨a0, a1⟩, p0, p1⟩ := hR1 (by omega)
    have e : reX (plN nm) (ren (upk kp b.ops.length) o) = { o with a := (plN kp o.a.toNat : Int), b := (plN kp o.b.toNat : Int) } := by
     unfold reX; rw [ren_code, if_neg (by omega), if_neg (by omega)]; unfold ren; rw [if_pos (by omega), hA _ a0 a1, hA _ p0 p1]
    simp only [push_cast, simprocAttr, hk3, hO]
    intro b8 hb8
    have fin := fin b8 hb8
    rw [e, c] at fin
    simp only [push_cast, simprocAttr, hkk, hgk, c]
    refine (kP o.a a0 (by omega) _).to ?_
    simp only [push_cast, simprocAttr, c]
    refine (kP o.b p0 (by omega) _).to ?_
    simp only [push_cast, simprocAttr, c]
    refine fin _ rfl _ fun ρ v' H' h6 l1 l2 l3 l4 l6 l7 hs6 ho6 => ?_
    simp (disch := omega) only [push_cast, simprocAttr, wrap_i64, toNat_ofInt64, Nat.min_eq_left, Int.toNat_of_nonneg, l1, l2, l3, l4, l6, l7]
    exact ⟨_, h6, by omega, hs6, k + 1, v', rfl, by omega, ho6, rfl⟩
   ·obtain ⟨a0, a1⟩ := hR2 c
    obtain ⟨x0, x1⟩ := htk _ (.inl ⟨by omega, rfl⟩)
    have e : reX (plN nm) (ren (upk kp b.ops.length) o) = { o with a := (plN kp o.a.toNat : Int), x := (plN nm o.x.toNat : Int) } := by
     unfold reX; rw [ren_code, if_neg (by omega), if_pos (by omega)]; unfold ren; rw [if_neg (by omega), if_pos c, hA _ a0 a1]
    simp only [push_cast, simprocAttr, hk3, hO]
    intro b8 hb8
    have fin := fin b8 hb8
    rw [e, c] at fin
    simp only [push_cast, simprocAttr, hkk, hgk, c]
    refine (kP o.a a0 (by omega) _).to ?_
    simp only [push_cast, simprocAttr, c]
    refine (kX o.x x0 (by omega) _).to ?_
    simp only [push_cast, simprocAttr, c]
    refine fin _ rfl _ fun ρ v' H' h6 l1 l2 l3 l4 l6 l7 hs6 ho6 => ?_
    simp (disch := omega) only [push_cast, simprocAttr, wrap_i64, toNat_ofInt64, Nat.min_eq_left, Int.toNat_of_nonneg, l1, l2, l3, l4, l6, l7]
    exact ⟨_, h6, by omega, hs6, k + 1, v', rfl, by omega, ho6, rfl⟩
   ·obtain ⟨⟨a0, a1⟩, p0, p1⟩ := hR1 (by omega)
    obtain ⟨x0, x1⟩ := htk _ (.inl ⟨by omega, rfl⟩)
    obtain ⟨y0, y1⟩ := htk _ (.inr ⟨c, rfl⟩)
    have e : reX (plN nm) (ren (upk kp b.ops.length) o) = { o with a := (plN kp o.a.toNat : Int), b := (plN kp o.b.toNat : Int), x := (plN nm o.x.toNat : Int), y := (plN nm o.y.toNat : Int) } := by
     unfold reX; rw [ren_code, if_pos (by omega)]; unfold ren; rw [if_pos (by omega), hA _ a0 a1, hA _ p0 p1]
    simp only [push_cast, simprocAttr, hk3, hO]
    intro b8 hb8
    have fin := fin b8 hb8
    rw [e, c] at fin
    simp only [push_cast, simprocAttr, hkk, hgk, c]
    refine (kP o.a a0 (by omega) _).to ?_
    simp only [push_cast, simprocAttr, c]
    refine (kP o.b p0 (by omega) _).to ?_
    simp only [push_cast, simprocAttr, c]
    refine (kX o.x x0 (by omega) _).to ?_
    simp only [push_cast, simprocAttr, c]
    refine (kX o.y y0 (by omega) _).to ?_
    simp only [push_cast, simprocAttr, c]
    refine fin _ rfl _ fun ρ v' H' h6 l1 l2 l3 l4 l6 l7 hs6 ho6 => ?_
    simp (disch := omega) only [push_cast, simprocAttr, wrap_i64, toNat_ofInt64, Nat.min_eq_left, Int.toNat_of_nonneg, l1, l2, l3, l4, l6, l7]
    exact ⟨_, h6, by omega, hs6, k + 1, v', rfl, by omega, ho6, rfl⟩
   ·obtain ⟨⟨a0, a1⟩, p0, p1⟩ := hR1 (by omega)
    obtain ⟨x0, x1⟩ := htk _ (.inl ⟨by omega, rfl⟩)
    have e : reX (plN nm) (ren (upk kp b.ops.length) o) = { o with a := (plN kp o.a.toNat : Int), b := (plN kp o.b.toNat : Int), x := (plN nm o.x.toNat : Int) } := by
     unfold reX; rw [ren_code, if_neg (by omega), if_pos (by omega)]; unfold ren; rw [if_pos (by omega), hA _ a0 a1, hA _ p0 p1]
    simp only [push_cast, simprocAttr, hk3, hO]
    intro b8 hb8
    have fin := fin b8 hb8
    rw [e, c] at fin
    simp only [push_cast, simprocAttr, hkk, hgk, c]
    refine (kP o.a a0 (by omega) _).to ?_
    simp only [push_cast, simprocAttr, c]
    refine (kP o.b p0 (by omega) _).to ?_
    simp only [push_cast, simprocAttr, c]
    refine (kX o.x x0 (by omega) _).to ?_
    simp only [push_cast, simprocAttr, c]
    refine fin _ rfl _ fun ρ v' H' h6 l1 l2 l3 l4 l6 l7 hs6 ho6 => ?_
    simp (disch := omega) only [push_cast, simprocAttr, wrap_i64, toNat_ofInt64, Nat.min_eq_left, Int.toNat_of_nonneg, l1, l2, l3, l4, l6, l7]
    exact ⟨_, h6, by omega, hs6, k + 1, v', rfl, by omega, ho6, rfl⟩
   ·have c3 : ¬ o.code ≥ 3 := by omega
    have c3' : ¬ o.code = 3 := by omega
    have c4 : ¬ o.code ≥ 4 := by omega
    have c5 : ¬ o.code ≥ 5 := by omega
    have c5' : ¬ o.code = 5 := by omega
    have e : reX (plN nm) (ren (upk kp b.ops.length) o) = o := by
     unfold reX; rw [ren_code, if_neg (by omega), if_neg (by omega)]; unfold ren; rw [if_neg (by omega), if_neg (by omega)]
    simp only [push_cast, simprocAttr, hk3, hO]
    intro b8 hb8
    have fin := fin b8 hb8
    rw [e] at fin
    simp (disch := omega) only [push_cast, simprocAttr, wrap_i64, toNat_ofInt64, Nat.min_eq_left, Int.toNat_of_nonneg, hkk, hgk, c3, c3', c4, c5, c5', or_self, false_imp_iff, true_and, not_false_eq_true, true_imp_iff]
    refine fin _ rfl _ fun ρ v' H' h6 l1 l2 l3 l4 l6 l7 hs6 ho6 => ?_
    simp (disch := omega) only [push_cast, simprocAttr, wrap_i64, toNat_ofInt64, Nat.min_eq_left, Int.toNat_of_nonneg, l1, l2, l3, l4, l6, l7]
    exact ⟨_, h6, by omega, hs6, k + 1, v', rfl, by omega, ho6, rfl⟩
 ·obtain rfl : k = b.ops.length := by omega
  simp only [push_cast, simprocAttr, hk3]
  exact hq _ v _ rfl rfl rfl rfl rfl hown
end Go.Ab
end
