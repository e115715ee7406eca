/- Joined. -/
import Derived.Test.YtknamhmjhmdikaaDoorSG1
set_option linter.unusedSimpArgs false
set_option linter.unusedVariables false
set_option maxRecDepth 10000
section
namespace Go.Ab
/-! A region whose order is open: one order is walked, the others come to the same. -/
def RK.ops : RK → List Operand
 | .mv x | .un _ x | .conv _ x | .bstr x | .fad _ x | .fld _ _ x | .ld _ x | .nck x | .ext _ x | .len x | .lens x | .lenm x | .eqm _ x => [x]
 | .pick a b c => [a, b, c]
 | .bin _ x y | .eqb _ x y | .eqp _ x y | .eqa _ _ x y | .ixs _ x y | .ixa _ _ x y | .ixv _ _ _ x y | .ixb x y | .mm _ x y | .lkp _ _ _ x y => [x, y]
 | .bld _ ps => ps.map (·.2.2)
 | .mkf _ a b => a ++ b
 | .sls _ x lo hi | .sla _ _ x lo hi | .slb x lo hi => [x] ++ lo.toList ++ hi.toList
 | .sls3 _ x lo hi mx => [x, hi, mx] ++ lo.toList
def EK.ops : EK → List Operand
 | .asg x | .box x | .bxr x | .nilq _ x => [x]
 | .alc _ | .mkm => []
 | .bsl _ _ ps | .bsr _ _ ps => ps.map (·.2.2)
 | .st _ a v => [a, v]
 | .app _ _ x y | .mks _ _ x y | .cpy _ x y | .dlt _ x y => [x, y]
 | .mup _ x i v => [x, i, v]
 | .call _ args => args
 | .callv x args => x :: args
def slot : Operand → List Nat
 | .tmp t => [t]
 | _ => []
def AOp.isE (o : AOp) : Bool := match o.k with
 | .e _ => true
 | .r _ => false
def AOp.reads (o : AOp) : List Nat := ((match o.k with | .r k => k.ops | .e k => k.ops).flatMap slot) ++ (o.g.map (·.1)).toList
section
variable {P : Program} {G : Glo}
theorem afill_congr {x y : Operand → AV} : ∀ (ps : List (Nat × Nat × Operand)) (cells : List AV), (∀ p ∈ ps, x p.2.2 = y p.2.2) → afill x cells ps = afill y cells ps := by
 intro ps
 induction ps with
 | nil => intro cells _; rfl
 | cons p r ih =>
  intro cells h
  obtain ⟨off, n, o⟩ := p
  have e : x o = y o := h (off, n, o) (by simp)
  simp only [afill]
  rw [e]
  split
  ·rw [ih _ fun p hp => h p (by simp [hp])]
  ·rfl
theorem abound_congr {x y : Operand → AV} {a b : Nat} {o : Option Operand} (h : ∀ z ∈ o.toList, x z = y z) : abound x a b o = abound y a b o := by
 cases o with
 | none => rfl
 | some z => simp only [abound, h z (by simp)]
theorem evR_congr {k : RK} {ρ ρ' : Env} {h : Heap} (hx : ∀ x ∈ k.ops, xv G ρ x = xv G ρ' x) : evR G k ρ h = evR G k ρ' h := by
 cases k <;> simp only [RK.ops] at hx <;> simp only [evR]
 case bld z ps => rw [afill_congr ps z fun p hp => hx _ (List.mem_map.2 ⟨p, hp, rfl⟩)]
 case mkf f a b =>
  rw [List.map_congr_left (l := a) fun x h => hx x (by simp [h]), List.map_congr_left (l := b) fun x h => hx x (by simp [h])]
 case sls sz x lo hi =>
  rw [hx x (by simp)]
  simp only [abound_congr (x := xv G ρ) (y := xv G ρ') (o := hi) (fun z hz => hx z (by simp at hz; simp [hz])),
   abound_congr (x := xv G ρ) (y := xv G ρ') (o := lo) (fun z hz => hx z (by simp at hz; simp [hz]))]
 case sla n sz x lo hi =>
  rw [hx x (by simp)]
  simp only [abound_congr (x := xv G ρ) (y := xv G ρ') (o := hi) (fun z hz => hx z (by simp at hz; simp [hz])),
   abound_congr (x := xv G ρ) (y := xv G ρ') (o := lo) (fun z hz => hx z (by simp at hz; simp [hz]))]
 case slb x lo hi =>
  rw [hx x (by simp)]
  simp only [abound_congr (x := xv G ρ) (y := xv G ρ') (o := hi) (fun z hz => hx z (by simp at hz; simp [hz])),
   abound_congr (x := xv G ρ) (y := xv G ρ') (o := lo) (fun z hz => hx z (by simp at hz; simp [hz]))]
 case sls3 sz x lo hi mx =>
  rw [hx x (by simp)]
  simp only [abound_congr (x := xv G ρ) (y := xv G ρ') (o := some hi) (fun z hz => hx z (by simp at hz; simp [hz])),
   abound_congr (x := xv G ρ) (y := xv G ρ') (o := some mx) (fun z hz => hx z (by simp at hz; simp [hz])),
   abound_congr (x := xv G ρ) (y := xv G ρ') (o := lo) (fun z hz => hx z (by simp at hz; simp [hz]))]
 case pick a b c => rw [hx a (by simp), hx b (by simp), hx c (by simp)]
 case bin op x y => rw [hx x (by simp), hx y (by simp)]
 case eqb n x y => rw [hx x (by simp), hx y (by simp)]
 case eqp n x y => rw [hx x (by simp), hx y (by simp)]
 case eqa n ks x y => rw [hx x (by simp), hx y (by simp)]
 case ixs sz x y => rw [hx x (by simp), hx y (by simp)]
 case ixa n sz x y => rw [hx x (by simp), hx y (by simp)]
 case ixv n sz m x y => rw [hx x (by simp), hx y (by simp)]
 case ixb x y => rw [hx x (by simp), hx y (by simp)]
 case mm b x y => rw [hx x (by simp), hx y (by simp)]
 case lkp k z ok x y => rw [hx x (by simp), hx y (by simp)]
 all_goals rw [hx _ (by simp)]
theorem stE_congr {k : EK} {ρ ρ' : Env} {h : Heap} {Q : AV → Heap → Prop} (hx : ∀ x ∈ k.ops, xv G ρ x = xv G ρ' x) : stE P G k ρ h Q = stE P G k ρ' h Q := by
 cases k <;> simp only [EK.ops] at hx <;> simp only [stE]
 case bsl len cells ps => rw [afill_congr ps cells fun p hp => hx _ (List.mem_map.2 ⟨p, hp, rfl⟩)]
 case bsr len cells ps => rw [afill_congr ps cells fun p hp => hx _ (List.mem_map.2 ⟨p, hp, rfl⟩)]
 case call f args => rw [List.map_congr_left (l := args) fun x h => hx x h]
 case callv x args => rw [hx x (by simp), List.map_congr_left (l := args) fun y h => hx y (by simp [h])]
 case st n a v => rw [hx a (by simp), hx v (by simp)]
 case app sz b x y => rw [hx x (by simp), hx y (by simp)]
 case mks b z x y => rw [hx x (by simp), hx y (by simp)]
 case cpy sz x y => rw [hx x (by simp), hx y (by simp)]
 case dlt k x y => rw [hx x (by simp), hx y (by simp)]
 case mup k x i v => rw [hx x (by simp), hx i (by simp), hx v (by simp)]
 all_goals rw [hx _ (by simp)]
theorem xv_congr {ρ ρ' : Env} (x : Operand) (h : ∀ s ∈ slot x, lk ρ s = lk ρ' s) : xv G ρ x = xv G ρ' x := by
 cases x with
 | tmp t => exact h t (by simp [slot])
 | const v => rfl
 | global g => rfl
 | func f => rfl
theorem lk_keep_mem {ks : List Nat} {ρ : Env} {s : Nat} (hs : s ∈ ks) : lk (keep ks ρ) s = lk ρ s := by
 induction ks with
 | nil => simp at hs
 | cons k ks ih =>
  simp only [keep, List.map_cons, lk]
  by_cases e : s = k
  ·subst e; simp
  ·have hb : (s == k) = false := by simpa using e
   rw [hb]
   exact ih (by simpa [e] using hs)
def pend (G : Glo) (o : AOp) (ρ : Env) (h : Heap) : Prop :=
 match o.k, o.d with
 | .r k, some d => gd o.g ρ (evR G k ρ h = some (lk ρ d)) (lk ρ d = .tup [])
 | _, _ => False
def stb (G : Glo) (ops : List AOp) (ρ : Env) (h : Heap) : List Nat → Prop
 | [] => True
 | j :: r => (match ops[j]? with
  | some o => pend G o ρ h
  | none => False) ∧ stb G ops ρ h r
def dwp (P : Program) (G : Glo) (ops : List AOp) : List (Nat × List Nat) → Env → Heap → (Env → Heap → Prop) → Prop
 | [], ρ, h, Q => Q ρ h
 | (i, fl) :: rest, ρ, h, Q => match ops[i]? with
  | none => False
  | some o => gd o.g ρ
    (match o.k with
     | .r k => match evR G k ρ h with
      | some v => dwp P G ops rest (put o.d v ρ) h Q
      | none => False
     | .e k => stE P G k ρ h fun v h' => stb G ops ρ h' fl ∧ dwp P G ops rest (put o.d v ρ) h' Q)
    (dwp P G ops rest (put o.d (.tup []) ρ) h Q)
inductive Reach (es : List (List Nat)) (i : Nat) : Nat → Prop
 | one {x : Nat} (h : i ∈ es.getD x []) : Reach es i x
 | step {x y : Nat} (h : y ∈ es.getD x []) (hr : Reach es i y) : Reach es i x
theorem Reach.closed {es : List (List Nat)} {T : Nat → Prop} (hT : ∀ x, T x → ∀ y ∈ es.getD x [], T y) {i x : Nat} (hr : Reach es i x) (hx : ∀ y ∈ es.getD x [], T y) : T i := by
 induction hr with
 | one h => exact hx _ h
 | step h _ ih => exact ih (hT _ (hx _ h))
structure PairOK (ops : List AOp) (es : List (List Nat)) (a b : Nat × List Nat) : Prop where
 ne : a.1 ≠ b.1
 behind : (ops.getD a.1 default).isE = true → Reach es a.1 b.1
 floats : (ops.getD a.1 default).isE = false → (ops.getD b.1 default).isE = true → Reach es a.1 b.1 ∨ a.1 ∈ b.2
 anti : ∀ s, (ops.getD b.1 default).d = some s → s ∈ (ops.getD a.1 default).reads → (ops.getD b.1 default).isE = true ∧ Reach es a.1 b.1
 flow : ∀ s, (ops.getD a.1 default).d = some s → s ∈ (ops.getD b.1 default).reads → Reach es a.1 b.1
 out : ∀ s, (ops.getD a.1 default).d = some s → (ops.getD b.1 default).d = some s → (ops.getD a.1 default).isE = true ∧ (ops.getD b.1 default).isE = true
def desc (es : List (List Nat)) (i : Nat) (rest : List (Nat × List Nat)) : List Nat :=
 rest.foldl (fun acc x => if (es.getD x.1 []).any fun y => acc.contains y then x.1 :: acc else acc) [i]
def chk (ops : List AOp) (es : List (List Nat)) : List (Nat × List Nat) → Bool
 | [] => true
 | a :: rest =>
  let D := desc es a.1 rest
  let oa := ops.getD a.1 default
  (rest.all fun b =>
   let ob := ops.getD b.1 default
   let r := D.contains b.1
   a.1 != b.1 && (!oa.isE || r) && (oa.isE || !ob.isE || r || b.2.contains a.1) &&
   (match ob.d with | some s => !oa.reads.contains s || (ob.isE && r) | none => true) &&
   (match oa.d with | some s => !ob.reads.contains s || r | none => true) &&
   (match oa.d with | some _ => !(oa.d == ob.d) || (oa.isE && ob.isE) | none => true)) &&
  (oa.isE || (match oa.d with | some s => !oa.reads.contains s | none => false)) && chk ops es rest
def lin (es : List (List Nat)) : List Nat → List (Nat × List Nat) → Bool
 | _, [] => true
 | done, a :: rest => (es.getD a.1 []).all (fun y => done.contains y) && lin es (a.1 :: done) rest
theorem desc_reach {es : List (List Nat)} {i : Nat} {rest : List (Nat × List Nat)} {x : Nat} (hx : x ∈ desc es i rest) : x = i ∨ Reach es i x := by
 have key : ∀ (l : List (Nat × List Nat)) (acc : List Nat), (∀ x ∈ acc, x = i ∨ Reach es i x) →
   ∀ x ∈ l.foldl (fun acc x => if (es.getD x.1 []).any fun y => acc.contains y then x.1 :: acc else acc) acc, x = i ∨ Reach es i x := by
  intro l
  induction l with
  | nil => intro acc h x hx; exact h x hx
  | cons a r ih =>
   intro acc h x hx
   simp only [List.foldl_cons] at hx
   refine ih _ ?_ x hx
   intro y hy
   split at hy
   ·rename_i hany
    rcases List.mem_cons.1 hy with rfl | hy
    ·obtain ⟨z, hz, hc⟩ := List.any_eq_true.1 hany
     rcases h z (by simpa using hc) with rfl | hr
     ·exact .inr (.one hz)
     ·exact .inr (.step hz hr)
    ·exact h y hy
   ·exact h y hy
 exact key rest [i] (fun x hx => .inl (by simpa using hx)) x hx
theorem chk_pair {ops : List AOp} {es : List (List Nat)} {order : List (Nat × List Nat)} (h : chk ops es order = true) :
  order.Pairwise (PairOK ops es) ∧ ∀ a ∈ order, (ops.getD a.1 default).isE = false → ∃ d, (ops.getD a.1 default).d = some d ∧ d ∉ (ops.getD a.1 default).reads := by
 induction order with
 | nil => exact ⟨.nil, by simp⟩
 | cons a rest ih =>
  simp only [chk, Bool.and_eq_true] at h
  obtain ⟨⟨h1, h2⟩, h3⟩ := h
  obtain ⟨i1, i2⟩ := ih h3
  refine ⟨.cons ?_ i1, ?_⟩
  ·intro b hb
   have hp := List.all_eq_true.1 h1 b hb
   simp only [Bool.and_eq_true] at hp
   obtain ⟨⟨⟨⟨⟨p1, p2⟩, p3⟩, p4⟩, p5⟩, p6⟩ := hp
   have hne : a.1 ≠ b.1 := by simpa using p1
   have hr : (desc es a.1 rest).contains b.1 = true → Reach es a.1 b.1 := by
    intro hc
    rcases desc_reach (by simpa using hc) with e | hr
    ·exact absurd e.symm hne
    ·exact hr
   refine ⟨hne, ?_, ?_, ?_, ?_, ?_⟩
   ·intro he
    rw [he] at p2
    exact hr (by simpa using p2)
   ·intro hA hB
    rw [hA, hB] at p3
    simp only [Bool.not_true, Bool.or_false, Bool.false_or, Bool.or_eq_true] at p3
    rcases p3 with p3 | p3
    ·exact .inl (hr p3)
    ·exact .inr (by simpa using p3)
   ·intro s hs hrd
    rw [hs] at p4
    simp only [Bool.or_eq_true, Bool.and_eq_true, Bool.not_eq_true'] at p4
    rcases p4 with p4 | ⟨p4, p4'⟩
    ·simp at p4; exact absurd hrd p4
    ·exact ⟨p4, hr p4'⟩
   ·intro s hs hrd
    rw [hs] at p5
    simp only [Bool.or_eq_true, Bool.not_eq_true'] at p5
    rcases p5 with p5 | p5
    ·simp at p5; exact absurd hrd p5
    ·exact hr p5
   ·intro s hs hs'
    rw [hs] at p6
    simp only [hs', beq_self_eq_true, Bool.not_true, Bool.false_or, Bool.and_eq_true] at p6
    exact p6
  ·intro x hx he
   rcases List.mem_cons.1 hx with rfl | hx
   ·rw [he] at h2
    simp only [Bool.false_or] at h2
    split at h2
    ·rename_i s hs
     exact ⟨s, hs, by simpa using h2⟩
    ·cases h2
   ·exact i2 x hx he
theorem gd_congr {g : Option (Nat × Bool)} {ρ ρ' : Env} {y y' n n' : Prop} (hg : ∀ s want, g = some (s, want) → lk ρ s = lk ρ' s) (hy : y = y') (hn : n = n') : gd g ρ y n = gd g ρ' y' n' := by
 subst hy
 subst hn
 cases g with
 | none => rfl
 | some x =>
  obtain ⟨s, want⟩ := x
  simp only [gd, hg s want rfl]
theorem reads_guard {o : AOp} {s : Nat} {want : Bool} (h : o.g = some (s, want)) : s ∈ o.reads := by simp [AOp.reads, h]
theorem reads_r {o : AOp} {k : RK} (h : o.k = .r k) {x : Operand} (hx : x ∈ k.ops) {s : Nat} (hs : s ∈ slot x) : s ∈ o.reads := by
 simp only [AOp.reads, h, List.mem_append, List.mem_flatMap]
 exact .inl ⟨x, hx, hs⟩
theorem reads_e {o : AOp} {k : EK} (h : o.k = .e k) {x : Operand} (hx : x ∈ k.ops) {s : Nat} (hs : s ∈ slot x) : s ∈ o.reads := by
 simp only [AOp.reads, h, List.mem_append, List.mem_flatMap]
 exact .inl ⟨x, hx, hs⟩
theorem pend_congr {o : AOp} {ρ ρ' : Env} {h : Heap} (hr : ∀ s ∈ o.reads, lk ρ s = lk ρ' s) (hd : ∀ d, o.d = some d → lk ρ d = lk ρ' d) : pend G o ρ h = pend G o ρ' h := by
 unfold pend
 cases hk : o.k with
 | e k => rfl
 | r k =>
  cases hdd : o.d with
  | none => rfl
  | some d =>
   simp only
   rw [hd d hdd]
   exact gd_congr (fun s want hg => hr s (reads_guard hg)) (by rw [evR_congr fun x hx => xv_congr x fun s hs => hr s (reads_r hk hx hs)]) rfl
theorem advance {aops : List AOp} {es : List (List Nat)} {h : Heap} {K : Env → Heap → Prop} : ∀ (suf : List (Nat × List Nat)) (ρ : Env), suf.Pairwise (PairOK aops es) →
  (∀ a ∈ suf, (aops.getD a.1 default).isE = false → ∃ d, (aops.getD a.1 default).d = some d ∧ d ∉ (aops.getD a.1 default).reads) → dwp P G aops suf ρ h K →
  ∃ rs suf' ρ', suf = rs ++ suf' ∧ (∀ r ∈ rs, (aops.getD r.1 default).isE = false) ∧ (∀ a, suf'.head? = some a → (aops.getD a.1 default).isE = true) ∧ dwp P G aops suf' ρ' h K ∧
   (∀ s, (∀ r ∈ rs, (aops.getD r.1 default).d ≠ some s) → lk ρ' s = lk ρ s) ∧ (∀ r ∈ rs, pend G (aops.getD r.1 default) ρ' h) := by
 intro suf
 induction suf with
 | nil => intro ρ _ _ hq; exact ⟨[], [], ρ, rfl, by simp, by simp, hq, fun _ _ => rfl, by simp⟩
 | cons a rest ih =>
  intro ρ hp hrd hq
  obtain ⟨i, fl⟩ := a
  cases he : (aops.getD i default).isE with
  | true => exact ⟨[], (i, fl) :: rest, ρ, rfl, by simp, fun a ha => by simp at ha; subst ha; exact he, hq, fun _ _ => rfl, by simp⟩
  | false =>
   obtain ⟨hp1, hp2⟩ := List.pairwise_cons.1 hp
   obtain ⟨d, hd, hdr⟩ := hrd (i, fl) (by simp) he
   have hgo : ∀ (ρ1 : Env) (v : AV), ρ1 = put (some d) v ρ → dwp P G aops rest ρ1 h K → pend G (aops.getD i default) ρ1 h →
     ∃ rs suf' ρ', (i, fl) :: rest = rs ++ suf' ∧ (∀ r ∈ rs, (aops.getD r.1 default).isE = false) ∧ (∀ a, suf'.head? = some a → (aops.getD a.1 default).isE = true) ∧ dwp P G aops suf' ρ' h K ∧
      (∀ s, (∀ r ∈ rs, (aops.getD r.1 default).d ≠ some s) → lk ρ' s = lk ρ s) ∧ (∀ r ∈ rs, pend G (aops.getD r.1 default) ρ' h) := by
    intro ρ1 v hρ hq1 hpd
    obtain ⟨rs, suf', ρ', h1, h2, h3, h4, h5, h6⟩ := ih ρ1 hp2 (fun a ha => hrd a (by simp [ha])) hq1
    refine ⟨(i, fl) :: rs, suf', ρ', by rw [h1]; rfl, ?_, h3, h4, ?_, ?_⟩
    ·intro r hr
     rcases List.mem_cons.1 hr with rfl | hr
     ·exact he
     ·exact h2 r hr
    ·intro s hs
     rw [h5 s fun r hr => hs r (by simp [hr]), hρ, lk_put, if_neg]
     intro e
     cases e
     exact hs (i, fl) (by simp) hd
    ·intro r hr
     rcases List.mem_cons.1 hr with rfl | hr
     ·rw [← pend_congr (ρ := ρ1)]
      ·exact hpd
      ·intro s hs
       refine (h5 s fun r' hr' hd' => ?_).symm
       have hok := hp1 r' (by rw [h1]; simp [hr'])
       have := (hok.anti s hd' hs).1
       rw [h2 r' hr'] at this
       cases this
      ·intro d' hd'
       refine (h5 d' fun r' hr' hd'' => ?_).symm
       have hok := hp1 r' (by rw [h1]; simp [hr'])
       have := (hok.out d' hd' hd'').1
       simp only at this
       rw [he] at this
       cases this
     ·exact h6 r hr
   simp only [dwp] at hq
   split at hq
   ·exact hq.elim
   ·rename_i o ho
    have hgo' : aops.getD i default = o := by rw [List.getD_eq_getElem?_getD, ho]; rfl
    rw [hgo'] at he hd hdr hgo
    cases hk : o.k with
    | e k => simp [AOp.isE, hk] at he
    | r k =>
     rw [hk, hd] at hq
     simp only at hq
     have hlk : ∀ (v : AV) (s : Nat), s ∈ o.reads → lk (put (some d) v ρ) s = lk ρ s := fun v s hs => by
      rw [lk_put, if_neg]
      intro e
      cases e
      exact hdr hs
     have hev : ∀ v, evR G k (put (some d) v ρ) h = evR G k ρ h := fun v => evR_congr fun x hx => xv_congr x fun s hs => hlk v s (reads_r hk hx hs)
     cases hgd : o.g with
     | none =>
      rw [hgd] at hq
      simp only [gd] at hq
      split at hq
      ·rename_i v hv
       refine hgo _ v rfl hq ?_
       simp only [pend, hk, hd, hgd, gd]
       rw [hev, hv, lk_put, if_pos rfl]
      ·exact hq.elim
     | some x =>
      obtain ⟨s, want⟩ := x
      have hs := reads_guard hgd
      rw [hgd] at hq
      simp only [gd] at hq
      split at hq
      ·rename_i b hb
       by_cases hbw : b = want
       ·have hq' := hq.1 hbw
        split at hq'
        ·rename_i v hv
         refine hgo _ v rfl hq' ?_
         simp only [pend, hk, hd, hgd, gd]
         rw [hlk v s hs, hb]
         refine ⟨fun _ => ?_, fun hne => absurd hbw hne⟩
         rw [hev, hv, lk_put, if_pos rfl]
        ·exact hq'.elim
       ·refine hgo _ _ rfl (hq.2 hbw) ?_
        simp only [pend, hk, hd, hgd, gd]
        rw [hlk _ s hs, hb]
        refine ⟨fun e => absurd e hbw, fun _ => ?_⟩
        rw [lk_put, if_pos rfl]
      ·rename_i hb
       refine hgo _ _ rfl hq ?_
       simp only [pend, hk, hd, hgd, gd]
       rw [hlk _ s hs, hb]
       simp only
       rw [lk_put, if_pos rfl]
      ·exact hq.elim
theorem countP_lt {α : Type} {p q : α → Bool} : ∀ (l : List α), (∀ x ∈ l, q x = true → p x = true) → (∃ x ∈ l, p x = true ∧ q x = false) → l.countP q < l.countP p := by
 intro l
 induction l with
 | nil => rintro _ ⟨x, hx, _⟩; cases hx
 | cons a r ih =>
  intro h1 ⟨x, hx, h2, h3⟩
  have hle : r.countP q ≤ r.countP p := List.countP_mono_left fun x hx => h1 x (by simp [hx])
  simp only [List.countP_cons]
  rcases List.mem_cons.1 hx with rfl | hx
  ·rw [h2, h3]; simp; omega
  ·have := ih (fun x hx => h1 x (by simp [hx])) ⟨x, hx, h2, h3⟩
   cases hq : q a with
   | false => simp; split <;> omega
   | true => rw [h1 a (by simp) hq]; simp; omega
structure Inv (P : Program) (G : Glo) (w0 : W0) (h0 : Heap) (N : Nat) (aops : List AOp) (es : List (List Nat)) (order : List (Nat × List Nat)) (K : Env → Heap → Prop) (n : Nat)
  (listed : Array Bool) (a : Act) (w : World) (pre suf : List (Nat × List Nat)) (ρ : Env) (h : Heap) : Prop where
 eq : order = pre ++ suf
 size : listed.size = n
 sub : ∀ i, listed.getD i false = true → ∃ x ∈ pre, x.1 = i
 closed : ∀ x, listed.getD x false = true → ∀ y ∈ es.getD x [], listed.getD y false = true
 head : ∀ x, suf.head? = some x → (aops.getD x.1 default).isE = true
 walk : dwp P G aops suf ρ h K
 nd : a.defers = w0.2
 sz : a.tmps.size = N
 env : ∀ s, (∀ x ∈ pre, listed.getD x.1 false = false → (aops.getD x.1 default).d ≠ some s) → Rep w h.dom (lk ρ s) (a.tmps.getD s undef)
 heap : HRep w h
 glo : GRep G w h.dom
 fr : Fr w0.1 h0 w h
 pen : ∀ x ∈ pre, listed.getD x.1 false = false → (aops.getD x.1 default).isE = false ∧ pend G (aops.getD x.1 default) ρ h
theorem getD_set {l : Array Bool} {i j : Nat} (hi : i < l.size) : (l.setIfInBounds i true).getD j false = if j = i then true else l.getD j false := by
 simp only [Array.getD_eq_getD_getElem?]
 by_cases e : j = i
 ·subst e; simp [hi]
 ·rw [if_neg e, Array.getElem?_setIfInBounds_ne (Ne.symm e)]
theorem dreg_inv {w0 : W0} {h0 : Heap} {N : Nat} {ops : Array Oper} {aops : List AOp} (ht : ops.toList.mapM (trOp P N ops) = some (aops.map AOp.bare)) {order : List (Nat × List Nat)}
  (hc : chk aops (ops.toList.map edgesOf) order = true) (hlin : lin (ops.toList.map edgesOf) [] order = true) (hall : ∀ i, i < ops.size → ∃ x ∈ order, x.1 = i) (hin : ∀ x ∈ order, x.1 < ops.size)
  {R : Exit → Act → World → Prop} {K : Env → Heap → Prop} (hR : ∀ ρ h a w, K ρ h → Sim G w0 h0 N ρ h a w → R .normal a w) {ro : Option Nat} :
  ∀ (fuel : Nat) (listed : Array Bool) (a : Act) (w : World) (pre suf : List (Nat × List Nat)) (ρ : Env) (h : Heap), order.countP (fun x => !(listed.getD x.1 false)) ≤ fuel →
   Inv P G w0 h0 N aops (ops.toList.map edgesOf) order K ops.size listed a w pre suf ρ h → wpAnyIn (FR ro) 0 P .any ops R fuel listed a w := by
 obtain ⟨hlen, hget⟩ := mapM_get ht
 obtain ⟨hpw, hrd⟩ := chk_pair hc
 generalize hes : ops.toList.map edgesOf = es at *
 have hesi : ∀ i (hi : i < ops.size), es.getD i [] = edgesOf ops[i] := by
  intro i hi
  rw [← hes, List.getD_eq_getElem?_getD, List.getElem?_map]
  simp [hi]
 have hready : ∀ (listed : Array Bool), listed.size = ops.size → ∀ i, i ∈ Region.ready .any ops listed ↔ i < ops.size ∧ listed.getD i false = false ∧ ∀ y ∈ es.getD i [], listed.getD y false = true := by
  intro listed hsz i
  simp only [Region.ready, List.mem_filter, List.mem_range, Bool.and_eq_true, Bool.not_eq_true']
  constructor
  ·rintro ⟨hi, h1, h2⟩
   refine ⟨hi, ?_, ?_⟩
   ·rw [Array.getD_eq_getD_getElem?, Array.getElem?_eq_getElem (by omega)] at h1 ⊢
    exact h1
   ·intro y hy
    rw [hesi i hi] at hy
    simp only [Array.getElem?_eq_getElem hi, Option.map_some, Option.getD_some] at h2
    simp only [edgesOf, List.mem_map, List.mem_filter] at hy
    obtain ⟨e, ⟨he, hb⟩, rfl⟩ := hy
    have := Array.all_eq_true_iff_forall_mem.1 h2 e (by simpa using he)
    simpa [hb] using this
  ·rintro ⟨hi, h1, h2⟩
   refine ⟨hi, ?_, ?_⟩
   ·rw [Array.getD_eq_getD_getElem?, Array.getElem?_eq_getElem (by omega)] at h1 ⊢
    exact h1
   ·simp only [Array.getElem?_eq_getElem hi, Option.map_some, Option.getD_some]
    refine Array.all_eq_true_iff_forall_mem.2 fun e he => ?_
    cases hb : Region.binds .any e with
    | false => rfl
    | true =>
     simp only [Bool.not_true, Bool.false_or]
     refine h2 e.on ?_
     rw [hesi i hi]
     simp only [edgesOf, List.mem_map, List.mem_filter]
     exact ⟨e, ⟨by simpa using he, hb⟩, rfl⟩
 have hdone : ∀ (listed : Array Bool), listed.size = ops.size → Region.ready .any ops listed = [] → ∀ x ∈ order, listed.getD x.1 false = true := by
  intro listed hsz hr
  have key : ∀ (l : List (Nat × List Nat)) (done : List Nat), lin es done l = true → (∀ x ∈ l, x.1 < ops.size) → (∀ y ∈ done, listed.getD y false = true) → ∀ x ∈ l, listed.getD x.1 false = true := by
   intro l
   induction l with
   | nil => intro done _ _ _ x hx; cases hx
   | cons b r ih =>
    intro done h1 h2 h3
    simp only [lin, Bool.and_eq_true] at h1
    have hb : listed.getD b.1 false = true := by
     cases e : listed.getD b.1 false with
     | true => rfl
     | false =>
      have : b.1 ∈ Region.ready .any ops listed := (hready listed hsz b.1).2 ⟨h2 b (by simp), e, fun y hy => h3 y (by simpa using List.all_eq_true.1 h1.1 y hy)⟩
      rw [hr] at this
      cases this
    intro x hx
    rcases List.mem_cons.1 hx with rfl | hx
    ·exact hb
    ·exact ih (b.1 :: done) h1.2 (fun x hx => h2 x (by simp [hx])) (fun y hy => by rcases List.mem_cons.1 hy with rfl | hy; exact hb; exact h3 y hy) x hx
  exact key order [] hlin hin (by simp)
 have hfin : ∀ (listed : Array Bool) (a : Act) (w : World) (pre suf : List (Nat × List Nat)) (ρ : Env) (h : Heap), Inv P G w0 h0 N aops es order K ops.size listed a w pre suf ρ h → Region.ready .any ops listed = [] → R .normal a w := by
  intro listed a w pre suf ρ h I hr
  have hd := hdone listed I.size hr
  cases suf with
  | nil =>
   refine hR ρ h a w I.walk ⟨I.nd, I.sz, fun s => I.env s fun x hx e => ?_, I.heap, I.glo, I.fr⟩
   have := hd x (by rw [I.eq]; simp [hx])
   rw [e] at this
   cases this
  | cons b r =>
   obtain ⟨x, hx, e⟩ := I.sub b.1 (hd b (by rw [I.eq]; simp))
   have := (List.pairwise_append.1 (I.eq ▸ hpw)).2.2 x hx b (by simp)
   exact absurd e this.ne
 intro fuel
 induction fuel with
 | zero =>
  intro listed a w pre suf ρ h hf I
  have hr : Region.ready .any ops listed = [] := by
   cases e : Region.ready .any ops listed with
   | nil => rfl
   | cons i r =>
    obtain ⟨hi, h1, _⟩ := (hready listed I.size i).1 (by rw [e]; simp)
    obtain ⟨x, hx, rfl⟩ := hall i hi
    have : 0 < order.countP (fun x => !(listed.getD x.1 false)) := List.countP_pos_iff.2 ⟨x, hx, by rw [h1]; rfl⟩
    omega
  exact ⟨hr, hfin _ _ _ _ _ _ _ I hr⟩
 | succ fuel ih =>
  intro listed a w pre suf ρ h hf I
  refine ⟨fun hr => hfin _ _ _ _ _ _ _ I hr, fun i hi => ?_⟩
  obtain ⟨hlt, hun, hpreds⟩ := (hready listed I.size i).1 hi
  have hls : i < listed.size := by rw [I.size]; exact hlt
  obtain ⟨bo, hbo, hto⟩ := hget i ops[i] (by simp [hlt])
  rw [List.getElem?_map] at hbo
  obtain ⟨ao, hao, rfl⟩ := Option.map_eq_some_iff.1 hbo
  have hgD : aops.getD i default = ao := by rw [List.getD_eq_getElem?_getD, hao]; rfl
  obtain ⟨hk, hd, hN, hg⟩ := wanted_of hto
  have hdl : ∀ s, ao.d = some s → s < a.tmps.size := fun s hs => by rw [I.sz]; exact hN s (by rw [← hd]; exact hs)
  have hfuel : order.countP (fun x => !((listed.setIfInBounds i true).getD x.1 false)) ≤ fuel := by
   obtain ⟨x, hx, hxi⟩ := hall i hlt
   have := countP_lt (p := fun x : Nat × List Nat => !(listed.getD x.1 false)) (q := fun x : Nat × List Nat => !((listed.setIfInBounds i true).getD x.1 false)) order (fun y _ hy => by
    rw [getD_set hls] at hy
    split at hy
    ·cases hy
    ·exact hy) ⟨x, hx, by simp only [hxi, hun]; rfl, by rw [getD_set hls, if_pos hxi]; rfl⟩
   omega
  have hclosed : ∀ x, (listed.setIfInBounds i true).getD x false = true → ∀ y ∈ es.getD x [], (listed.setIfInBounds i true).getD y false = true := by
   intro x hx y hy
   rw [getD_set hls] at hx ⊢
   split
   ·rfl
   ·split at hx
    ·rename_i e; subst e; exact hpreds y hy
    ·exact I.closed x hx y hy
  have hreach : ∀ {j : Nat}, Reach es j i → listed.getD j false = true := fun hr => hr.closed (T := fun x => listed.getD x false = true) I.closed hpreds
  -- what the operation reads is at hand
  have hslots : ∀ s ∈ ao.reads, Rep w h.dom (lk ρ s) (a.tmps.getD s undef) := by
   intro s hs
   refine I.env s fun x hx hxu hxd => ?_
   obtain ⟨hxe, _⟩ := I.pen x hx hxu
   by_cases hxi : x.1 = i
   ·obtain ⟨d, h1, h2⟩ := hrd x (by rw [I.eq]; simp [hx]) hxe
    rw [hxi, hgD] at h1 h2 hxd
    rw [h1] at hxd
    cases hxd
    exact h2 hs
   ·-- some other operation that is still to be done writes it
    obtain ⟨y, hy, hyi⟩ := hall i hlt
    rw [I.eq] at hy
    have hyD : aops.getD y.1 default = ao := by rw [hyi]; exact hgD
    have hcase : PairOK aops es x y ∨ PairOK aops es y x := by
     rcases List.mem_append.1 hy with hy | hy
     ·have hpp := (List.pairwise_append.1 (I.eq ▸ hpw)).1
      have := List.Pairwise.forall_of_forall_of_flip (R := fun x y => x = y ∨ PairOK aops es x y ∨ PairOK aops es y x) (l := pre) (fun x _ => .inl rfl)
       (hpp.imp fun h => .inr (.inl h)) (hpp.imp fun h => .inr (.inr h)) hx hy
      rcases this with e | h | h
      ·rw [e] at hxi; exact absurd hyi hxi
      ·exact .inl h
      ·exact .inr h
     ·exact .inl ((List.pairwise_append.1 (I.eq ▸ hpw)).2.2 x hx y hy)
    rcases hcase with ok | ok
    ·have := hreach (hyi ▸ ok.flow s hxd (by rw [hyD]; exact hs))
     rw [hxu] at this
     cases this
    ·have := (ok.anti s hxd (by rw [hyD]; exact hs)).1
     rw [hxe] at this
     cases this
  have hkeep : ERep w h.dom (keep ao.reads ρ) a := by
   intro s
   by_cases hs : s ∈ ao.reads
   ·rw [lk_keep_mem hs]; exact hslots s hs
   ·rcases lk_keep ao.reads ρ s with e | e
    ·have : lk (keep ao.reads ρ) s = .any := by
      clear e
      generalize ao.reads = l at hs
      induction l with
      | nil => rfl
      | cons k ks ih =>
       simp only [List.mem_cons, not_or] at hs
       simp only [keep, List.map_cons, lk]
       have hb : (s == k) = false := by simpa using hs.1
       rw [hb]
       exact ih hs.2
     rw [this]; exact .any _
    ·rw [e]; exact .any _
  have hx : ∀ x : Operand, Rep w h.dom (xv G (keep ao.reads ρ) x) (a.eval x) := fun x => rep_xv I.glo hkeep x
  have hkr : ∀ x : Operand, (∀ s ∈ slot x, s ∈ ao.reads) → xv G (keep ao.reads ρ) x = xv G ρ x := fun x hs => xv_congr x fun s h => lk_keep_mem (hs s h)
  have hoi : ops[i]? = some ops[i] := Array.getElem?_eq_getElem hlt
  have hne : ∀ {x : Nat}, (listed.setIfInBounds i true).getD x false = false → x ≠ i ∧ listed.getD x false = false := by
   intro x hx
   rw [getD_set hls] at hx
   split at hx
   ·cases hx
   ·rename_i e; exact ⟨e, hx⟩
  have hgd := fun (yes no : Prop) => gd_sound (w := w) (O := h.dom) (ρ := ρ) (a := a) (yes := yes) (no := no) hg (fun s want e => hslots s (reads_guard e))
  by_cases hpre : ∃ x ∈ pre, x.1 = i
  ·-- it has been walked: it looks again, and sees the same
   obtain ⟨x, hxp, hxi⟩ := hpre
   obtain ⟨hxe, hpend⟩ := I.pen x hxp (by rw [hxi]; exact hun)
   rw [hxi, hgD] at hxe hpend
   unfold pend at hpend
   cases hkk : ao.k with
   | e k => simp [hkk] at hpend
   | r k =>
    cases hdd : ao.d with
    | none => simp [hkk, hdd] at hpend
    | some d =>
     rw [hkk, hdd] at hpend
     simp only at hpend
     have fin : ∀ c, Rep w h.dom (lk ρ d) c → wpAnyIn (FR ro) 0 P .any ops R fuel (listed.setIfInBounds i true) (a.put (some d) c) w := by
      intro c hc'
      refine ih _ _ _ pre suf ρ h hfuel ⟨I.eq, by simpa using I.size, ?_, hclosed, I.head, I.walk, I.nd, by rw [put_size]; exact I.sz, ?_, I.heap, I.glo, I.fr, ?_⟩
      ·intro j hj
       rw [getD_set hls] at hj
       split at hj
       ·rename_i e; exact ⟨x, hxp, by rw [hxi, e]⟩
       ·exact I.sub j hj
      ·intro s hs
       by_cases e : s = d
       ·subst e
        have := hdl s hdd
        simp [Act.put, Array.getD_eq_getD_getElem?, this]; exact hc'
       ·have h1 : (a.put (some d) c).tmps.getD s undef = a.tmps.getD s undef := by
         simp only [Act.put]
         rw [Array.getD_eq_getD_getElem?, Array.getElem?_setIfInBounds_ne (Ne.symm e), ← Array.getD_eq_getD_getElem?]
        rw [h1]
        refine I.env s fun z hz hzu hzd => ?_
        by_cases hzi : z.1 = i
        ·rw [hzi, hgD, hdd] at hzd
         cases hzd
         exact e rfl
        ·exact hs z hz (by rw [getD_set hls, if_neg hzi]; exact hzu) hzd
      ·intro z hz hzu
       exact I.pen z hz (hne hzu).2
     unfold Go.wpOpIn
     rw [hoi]
     simp only
     rcases hgd _ _ hpend with ⟨hw, hy⟩ | ⟨hw, hno⟩
     ·rw [if_pos hw]
      have hev : evR G k (keep ao.reads ρ) h = some (lk ρ d) := by
       rw [← hy]
       exact evR_congr fun x hx => hkr x fun s hs => reads_r hkk hx hs
      obtain ⟨c, r1, r2⟩ := evR_sound ops[i] (hk.trans (by rw [hkk]; rfl)) I.heap (fun x _ => hx x) hev
      refine wpIn_run (fun c e => by rw [e] at hk; rw [hkk] at hk; cases hk) ?_
      rw [r1, Oper.uponIn_value, ← hd, hdd]
      exact fin c r2
     ·rw [if_neg (by rw [hw]; simp), ← hd, hdd]
      refine ⟨fun _ _ => trivial, ?_⟩
      exact fin undef (by rw [hno]; exact rep_undef)
  ·-- it is the next that acts
   have hsuf : ∃ y rest, suf = y :: rest ∧ y.1 = i := by
    obtain ⟨y, hy, hyi⟩ := hall i hlt
    rw [I.eq] at hy
    rcases List.mem_append.1 hy with hy | hy
    ·exact absurd ⟨y, hy, hyi⟩ hpre
    ·cases hs : suf with
     | nil => rw [hs] at hy; cases hy
     | cons z rest =>
      rw [hs] at hy
      rcases List.mem_cons.1 hy with rfl | hy
      ·exact ⟨y, rest, rfl, hyi⟩
      ·have hze := I.head z (by rw [hs]; rfl)
       have hpz := (List.pairwise_append.1 (I.eq ▸ hpw)).2.1
       rw [hs] at hpz
       have ok := (List.pairwise_cons.1 hpz).1 y hy
       have hzl := hreach (hyi ▸ ok.behind hze)
       obtain ⟨x, hx, e⟩ := I.sub z.1 hzl
       have := (List.pairwise_append.1 (I.eq ▸ hpw)).2.2 x hx z (by rw [hs]; simp)
       exact absurd e this.ne
   obtain ⟨y, rest, hs, hyi⟩ := hsuf
   have hye : ao.isE = true := by
    have := I.head y (by rw [hs]; rfl)
    rwa [hyi, hgD] at this
   have hwalk := I.walk
   rw [hs] at hwalk
   obtain ⟨y1, fl⟩ := y
   simp only at hyi
   subst hyi
   simp only [dwp, hao] at hwalk
   cases hkk : ao.k with
   | r k => simp [AOp.isE, hkk] at hye
   | e k =>
    rw [hkk] at hwalk
    simp only at hwalk
    have hord : order = pre ++ (y1, fl) :: rest := by rw [I.eq, hs]
    have hp0 := List.pairwise_append.1 (hord ▸ hpw)
    have hpxy : ∀ x ∈ pre, PairOK aops es x (y1, fl) := fun x hx => hp0.2.2 x hx _ (by simp)
    have hpxr : ∀ x ∈ pre, ∀ r ∈ rest, PairOK aops es x r := fun x hx r hr => hp0.2.2 x hx r (by simp [hr])
    have hpyr := (List.pairwise_cons.1 hp0.2.1).1
    have fin : ∀ c w' av h', HRep w' h' → Rep w' h'.dom av c → Fr w h w' h' → (∀ x ∈ pre, listed.getD x.1 false = false → pend G (aops.getD x.1 default) ρ h') → dwp P G aops rest (put ao.d av ρ) h' K →
      wpAnyIn (FR ro) 0 P .any ops R fuel (listed.setIfInBounds y1 true) (a.put ao.d c) w' := by
     intro c w' av h' q1 q2 q3 q4 q5
     obtain ⟨rs, suf', ρ', e1, e2, e3, e4, e5, e6⟩ := advance rest (put ao.d av ρ) (List.pairwise_cons.1 hp0.2.1).2 (fun z hz => hrd z (by rw [hord]; simp [hz])) q5
     have hrsu : ∀ r ∈ rs, (listed.setIfInBounds y1 true).getD r.1 false = false := by
      intro r hr
      have hrr : r ∈ rest := by rw [e1]; simp [hr]
      rw [getD_set hls, if_neg (Ne.symm (hpyr r hrr).ne)]
      cases e : listed.getD r.1 false with
      | false => rfl
      | true =>
       obtain ⟨x, hx, hxr⟩ := I.sub r.1 e
       exact absurd hxr (hpxr x hx r hrr).ne
     refine ih _ _ _ (pre ++ (y1, fl) :: rs) suf' ρ' h' hfuel ⟨by rw [hord, e1]; simp, by simpa using I.size, ?_, hclosed, e3, e4, by rw [put_nd]; exact I.nd, by rw [put_size]; exact I.sz, ?_, q1, I.glo.keep q3.keeps, I.fr.trans q3, ?_⟩
     ·intro j hj
      rw [getD_set hls] at hj
      split at hj
      ·rename_i e; exact ⟨(y1, fl), by simp, e.symm⟩
      ·obtain ⟨x, hx, hxj⟩ := I.sub j hj
       exact ⟨x, by simp [hx], hxj⟩
     ·intro s hs'
      rw [e5 s fun r hr hd' => hs' r (by simp [hr]) (hrsu r hr) hd', lk_put]
      by_cases e : ao.d = some s
      ·rw [if_pos e]
       have := hdl s e
       simp [e, Act.put, Array.getD_eq_getD_getElem?, this]; exact q2
      ·rw [if_neg e]
       have h1 : (a.put ao.d c).tmps.getD s undef = a.tmps.getD s undef := by
        cases hdd : ao.d with
        | none => rfl
        | some d =>
         have hne' : d ≠ s := fun e' => e (by rw [hdd, e'])
         simp only [Act.put]
         rw [Array.getD_eq_getD_getElem?, Array.getElem?_setIfInBounds_ne hne', ← Array.getD_eq_getD_getElem?]
       rw [h1]
       refine (I.env s fun z hz hzu hzd => ?_).keep q3.keeps
       have hzy : z.1 ≠ y1 := fun e' => hpre ⟨z, hz, e'⟩
       exact hs' z (by simp [hz]) (by rw [getD_set hls, if_neg hzy]; exact hzu) hzd
     ·intro x hx hxu
      obtain ⟨hxy, hxu'⟩ := hne hxu
      simp only [List.mem_append, List.mem_cons] at hx
      rcases hx with hx | rfl | hx
      ·obtain ⟨hxe, _⟩ := I.pen x hx hxu'
       refine ⟨hxe, ?_⟩
       have hnr : ¬ Reach es x.1 y1 := fun hr => by
        have := hreach hr
        rw [hxu'] at this
        cases this
       rw [← pend_congr (ρ := ρ)]
       ·exact q4 x hx hxu'
       ·intro s hs'
        rw [e5 s fun r hr hd' => ?_, lk_put, if_neg]
        ·intro e
         exact hnr ((hpxy x hx).anti s (by rw [hgD]; exact e) hs').2
        ·have := ((hpxr x hx r (by rw [e1]; simp [hr])).anti s hd' hs').1
         rw [e2 r hr] at this
         cases this
       ·intro d hd'
        rw [e5 d fun r hr hd'' => ?_, lk_put, if_neg]
        ·intro e
         have := ((hpxy x hx).out d hd' (by rw [hgD]; exact e)).1
         rw [hxe] at this
         cases this
        ·have := ((hpxr x hx r (by rw [e1]; simp [hr])).out d hd' hd'').1
         rw [hxe] at this
         cases this
      ·exact absurd rfl hxy
      ·exact ⟨e2 x hx, e6 x hx⟩
    unfold Go.wpOpIn
    rw [hoi]
    simp only
    rcases hgd _ _ hwalk with ⟨hw, hy⟩ | ⟨hw, hno⟩
    ·rw [if_pos hw]
     have hy' : stE P G k (keep ao.reads ρ) h (fun v h' => stb G aops ρ h' fl ∧ dwp P G aops rest (put ao.d v ρ) h' K) := by
      rw [stE_congr (ρ' := ρ) fun x hx => hkr x fun s hs => reads_e hkk hx hs]
      exact hy
     refine stE_sound ops[y1] (hk.trans (by rw [hkk]; rfl)) I.heap I.glo (fun x _ => hx x) hy' ?_
     intro c w' av h' ⟨q5, q6⟩ q1 q2 q3
     rw [← hd]
     refine fin c w' av h' q1 q2 q3 ?_ q6
     intro x hx hxu
     obtain ⟨hxe, _⟩ := I.pen x hx hxu
     rcases (hpxy x hx).floats hxe (by simp only [hgD]; exact hye) with hr | hm
     ·have := hreach hr
      rw [hxu] at this
      cases this
     ·have key : ∀ (l : List Nat), stb G aops ρ h' l → ∀ j ∈ l, pend G (aops.getD j default) ρ h' := by
       intro l
       induction l with
       | nil => intro _ j hj; cases hj
       | cons j0 l ihl =>
        intro hst j hj
        simp only [stb] at hst
        rcases List.mem_cons.1 hj with rfl | hj
        ·have := hst.1
         split at this
         ·rename_i o ho
          rw [List.getD_eq_getElem?_getD, ho]
          exact this
         ·exact this.elim
        ·exact ihl hst.2 j hj
      exact key fl q5 x.1 hm
    ·rw [if_neg (by rw [hw]; simp), ← hd]
     exact ⟨fun _ _ => trivial, fin undef w (.tup []) h I.heap rep_undef (Fr.refl _ _) (fun x hx hxu => (I.pen x hx hxu).2) hno⟩
def dok (ops : List AOp) (es : List (List Nat)) (order : List (Nat × List Nat)) : Bool :=
 chk ops es order && lin es [] order && (List.range ops.length).all (fun i => (order.map (·.1)).contains i) && order.all (fun x => decide (x.1 < ops.length)) && decide (order.length ≤ ops.length)
theorem Wp.dreg {N : Nat} {ρ : Env} {h : Heap} {Q : Exit → Env → Heap → Prop} (hm : P.follows .mixedOrders = true) {ops : List AOp} {es : List (List Nat)} {order : List (Nat × List Nat)} (hd : dok ops es order = true)
  (hq : dwp P G ops order ρ h fun ρ' h' => Q .normal ρ' h') : Wp P G N (.dreg ops es order) ρ h Q := by
 intro ro c hc w0 h0 a w hs
 obtain ⟨id, l, rfl, ht, hes⟩ := inv_any hc
 subst hes
 simp only [dok, Bool.and_eq_true] at hd
 obtain ⟨⟨⟨⟨d1, d2⟩, d3⟩, d4⟩, d5⟩ := hd
 obtain ⟨hlen, _⟩ := mapM_get ht
 have hsz : ops.length = l.size := by rw [List.length_map] at hlen; rw [← hlen]; simp
 obtain ⟨hpw, hrd⟩ := chk_pair d1
 obtain ⟨rs, suf', ρ', e1, e2, e3, e4, e5, e6⟩ := advance order ρ hpw (fun a ha => hrd a ha) hq
 have hs' : Sim G w0 h0 N ρ h a { w with drawn := w.drawn + 1 } := by
  have hk : Keeps w h.dom { w with drawn := w.drawn + 1 } h.dom := ⟨Nat.le_refl _, fun b _ ho => ⟨ho, rfl⟩, fun _ h => h⟩
  refine ⟨hs.nd, hs.sz, hs.env.keep hk, ?_, hs.glo.keep hk, ⟨hs.fr.size, hs.fr.blk, hs.fr.cel, hs.fr.os, hs.fr.tape, hs.fr.out⟩⟩
  intro b x hb
  exact own_keep (hs.heap b x hb) rfl hk
 refine wpIn_region_any hm ?_
 refine dreg_inv (w0 := w0) (h0 := h0) ht d1 d2 (fun i hi => ?_) (fun x hx => ?_) (R := fun e a' w' => ∃ ρ' h', Q e ρ' h' ∧ Sim G w0 h0 N ρ' h' a' w') (K := fun ρ' h' => Q .normal ρ' h') (fun ρ' h' a' w' q s => ⟨ρ', h', q, s⟩)
  l.size _ a _ rs suf' ρ' h ?_ ⟨e1, by simp, ?_, ?_, e3, e4, hs'.nd, hs'.sz, ?_, hs'.heap, hs'.glo, hs'.fr, fun x hx _ => ⟨e2 x hx, e6 x hx⟩⟩
 ·have := List.all_eq_true.1 d3 i (by simp; omega)
  simp only [List.contains_iff_mem, List.mem_map] at this
  exact this
 ·have := List.all_eq_true.1 d4 x hx
  simp at this
  omega
 ·-- no more operations than there are places
  have h1 : order.length ≤ ops.length := of_decide_eq_true d5
  exact Nat.le_trans List.countP_le_length (by omega)
 ·intro i hi
  rw [Array.getD_eq_getD_getElem?, Array.getElem?_replicate] at hi
  split at hi <;> cases hi
 ·intro x hx
  rw [Array.getD_eq_getD_getElem?, Array.getElem?_replicate] at hx
  split at hx <;> cases hx
 ·intro s hs2
  rw [e5 s fun r hr hd' => hs2 r hr (by
   rw [Array.getD_eq_getD_getElem?, Array.getElem?_replicate]
   split <;> rfl) hd']
  exact hs'.env s
/-! The same, where what acts may go in more than one order: a tree of the ways. -/
def dw1 (P : Program) (G : Glo) (ops : List AOp) (fl : List Nat) (ρ : Env) (h : Heap) (q : Env → Heap → Prop) (o : AOp) : Prop :=
 gd o.g ρ (match o.k with
  | .r k => match evR G k ρ h with
   | some v => q (put o.d v ρ) h
   | none => False
  | .e k => stE P G k ρ h fun v h' => stb G ops ρ h' fl ∧ q (put o.d v ρ) h') (q (put o.d (.tup []) ρ) h)
def altQ : OT → Prop → Prop
 | .nil, _ => True
 | _, p => p
def dwpT (P : Program) (G : Glo) (ops : List AOp) (Q : Env → Heap → Prop) : OT → Env → Heap → Prop
 | .nil, ρ, h => Q ρ h
 | .r i t, ρ, h => match ops[i]? with
  | none => False
  | some o => dw1 P G ops [] ρ h (dwpT P G ops Q t) o
 | .e i fl t alt, ρ, h => (match ops[i]? with
  | none => False
  | some o => dw1 P G ops fl ρ h (dwpT P G ops Q t) o) ∧ altQ alt (dwpT P G ops Q alt ρ h)
def alts : OT → List Nat
 | .e i _ _ alt => i :: alts alt
 | _ => []
structure Pair3 (ops : List AOp) (es : List (List Nat)) (a b : Nat) : Prop where
 ne : a ≠ b
 anti : ∀ s, (ops.getD b default).d = some s → s ∈ (ops.getD a default).reads → (ops.getD b default).isE = true ∧ Reach es a b
 flow : ∀ s, (ops.getD a default).d = some s → s ∈ (ops.getD b default).reads → Reach es a b
 out : ∀ s, (ops.getD a default).d = some s → (ops.getD b default).d = some s → (ops.getD a default).isE = true ∧ (ops.getD b default).isE = true
def cov (es : List (List Nat)) (n : Nat) (pre : List Nat) : OT → Prop
 | .e i fl t alt => ∀ j, j < n → j ∉ pre → j ∈ alts (.e i fl t alt) ∨ ∃ z ∈ alts (.e i fl t alt), z ∉ pre ∧ Reach es z j
 | _ => True
def altP : OT → Prop → Prop
 | .nil, _ => True
 | .r _ _, _ => False
 | .e _ _ _ _, p => p
def TOK (ops : List AOp) (es : List (List Nat)) (n : Nat) : OT → List Nat → Prop
 | .nil, pre => ∀ j, j < n → j ∈ pre
 | .r i t, pre => i < n ∧ (ops.getD i default).isE = false ∧ (∃ d, (ops.getD i default).d = some d ∧ d ∉ (ops.getD i default).reads) ∧ (∀ x ∈ pre, Pair3 ops es x i) ∧
   cov es n (pre ++ [i]) t ∧ TOK ops es n t (pre ++ [i])
 | .e i fl t alt, pre => (i < n ∧ (ops.getD i default).isE = true ∧ (∀ x ∈ pre, Pair3 ops es x i ∧ ((ops.getD x default).isE = false → Reach es x i ∨ x ∈ fl)) ∧
   cov es n (pre ++ [i]) t ∧ TOK ops es n t (pre ++ [i])) ∧ altP alt (TOK ops es n alt pre)
def isR : OT → Bool
 | .r _ _ => true
 | _ => false
theorem Reach.trans {es : List (List Nat)} {a b c : Nat} (h : Reach es a b) (h' : Reach es b c) : Reach es a c := by
 induction h' with
 | one hm => exact .step hm h
 | step hm _ ih => exact .step hm ih
def anc (es : List (List Nat)) (i : Nat) : List Nat :=
 (List.range (i + 1)).reverse.foldl (fun acc y => if acc.contains y then es.getD y [] ++ acc else acc) [i]
theorem anc_reach {es : List (List Nat)} {i x : Nat} (hx : x ∈ anc es i) : x = i ∨ Reach es x i := by
 have key : ∀ (l acc : List Nat), (∀ x ∈ acc, x = i ∨ Reach es x i) → ∀ x ∈ l.foldl (fun acc y => if acc.contains y then es.getD y [] ++ acc else acc) acc, x = i ∨ Reach es x i := by
  intro l
  induction l with
  | nil => intro acc h x hx; exact h x hx
  | cons y r ih =>
   intro acc h x hx
   simp only [List.foldl_cons] at hx
   refine ih _ ?_ x hx
   intro z hz
   split at hz
   ·rename_i hc
    rcases List.mem_append.1 hz with hz | hz
    ·rcases h y (by simpa using hc) with rfl | hr
     ·exact .inr (.one hz)
     ·exact .inr ((Reach.one hz).trans hr)
    ·exact h z hz
   ·exact h z hz
 exact key _ [i] (fun x hx => .inl (by simpa using hx)) x hx
def pchk (ops : List AOp) (A : List Nat) (a b : Nat) : Bool :=
 let oa := ops.getD a default
 let ob := ops.getD b default
 let r := A.contains a
 a != b && (match ob.d with | some s => !oa.reads.contains s || (ob.isE && r) | none => true) &&
  (match oa.d with | some s => !ob.reads.contains s || r | none => true) &&
  (match oa.d with | some _ => !(oa.d == ob.d) || (oa.isE && ob.isE) | none => true)
theorem pchk_ok {ops : List AOp} {es : List (List Nat)} {a b : Nat} (h : pchk ops (anc es b) a b = true) : Pair3 ops es a b := by
 simp only [pchk, Bool.and_eq_true] at h
 obtain ⟨⟨⟨p1, p4⟩, p5⟩, p6⟩ := h
 have hne : a ≠ b := by simpa using p1
 have hr : (anc es b).contains a = true → Reach es a b := fun hc => by
  rcases anc_reach (es := es) (by simpa using hc) with e | hr
  ·exact absurd e hne
  ·exact hr
 refine ⟨hne, ?_, ?_, ?_⟩
 ·intro s hs hrd
  rw [hs] at p4
  simp only [Bool.or_eq_true, Bool.and_eq_true, Bool.not_eq_true'] at p4
  rcases p4 with p4 | ⟨p4, p4'⟩
  ·simp at p4; exact absurd hrd p4
  ·exact ⟨p4, hr p4'⟩
 ·intro s hs hrd
  rw [hs] at p5
  simp only [Bool.or_eq_true, Bool.not_eq_true'] at p5
  rcases p5 with p5 | p5
  ·simp at p5; exact absurd hrd p5
  ·exact hr p5
 ·intro s hs hs'
  rw [hs] at p6
  simp only [hs', beq_self_eq_true, Bool.not_true, Bool.false_or, Bool.and_eq_true] at p6
  exact p6
def cchk (es : List (List Nat)) (n : Nat) (pre : List Nat) (t : OT) : Bool := match t with
 | .e i fl u alt => (List.range n).all fun j => pre.contains j || (alts (.e i fl u alt)).contains j || (anc es j).any fun z => z != j && (alts (.e i fl u alt)).contains z && !pre.contains z
 | _ => true
theorem cchk_ok {es : List (List Nat)} {n : Nat} {pre : List Nat} {t : OT} (h : cchk es n pre t = true) : cov es n pre t := by
 cases t with
 | nil => trivial
 | r i t => trivial
 | e i fl t alt =>
  intro j hj hp
  have := List.all_eq_true.1 h j (by simpa using hj)
  simp only [Bool.or_eq_true] at this
  rcases this with (q | q) | q
  ·exact absurd (by simpa using q) hp
  ·exact .inl (by simpa using q)
  ·obtain ⟨z, hz, hc⟩ := List.any_eq_true.1 q
   simp only [Bool.and_eq_true, bne_iff_ne, ne_eq, List.contains_iff_mem, Bool.not_eq_true', ← Bool.not_eq_true] at hc
   rcases anc_reach hz with e | hr
   ·exact absurd e hc.1.1
   ·exact .inr ⟨z, hc.1.2, hc.2, hr⟩
def tchk (ops : List AOp) (es : List (List Nat)) (n : Nat) : OT → List Nat → Bool
 | .nil, pre => (List.range n).all pre.contains
 | .r i t, pre => decide (i < n) && !(ops.getD i default).isE && (match (ops.getD i default).d with | some s => !(ops.getD i default).reads.contains s | none => false) &&
   (let A := anc es i; pre.all fun x => pchk ops A x i) && cchk es n (pre ++ [i]) t && tchk ops es n t (pre ++ [i])
 | .e i fl t alt, pre => (decide (i < n) && (ops.getD i default).isE && (let A := anc es i; pre.all fun x => pchk ops A x i && ((ops.getD x default).isE || A.contains x || fl.contains x)) &&
   cchk es n (pre ++ [i]) t && tchk ops es n t (pre ++ [i])) && (match alt with | .nil => true | .r _ _ => false | .e _ _ _ _ => tchk ops es n alt pre)
theorem tchk_ok {ops : List AOp} {es : List (List Nat)} {n : Nat} : ∀ (t : OT) (pre : List Nat), tchk ops es n t pre = true → TOK ops es n t pre := by
 intro t
 induction t with
 | nil =>
  intro pre h j hj
  have := List.all_eq_true.1 h j (by simpa using hj)
  simpa using this
 | r i t ih =>
  intro pre h
  simp only [tchk, Bool.and_eq_true, Bool.not_eq_true', decide_eq_true_eq] at h
  obtain ⟨⟨⟨⟨⟨h1, h2⟩, h3⟩, h4⟩, h5⟩, h6⟩ := h
  refine ⟨h1, h2, ?_, fun x hx => pchk_ok (List.all_eq_true.1 h4 x hx), cchk_ok h5, ih _ h6⟩
  split at h3
  ·rename_i s hs
   exact ⟨s, hs, by simpa using h3⟩
  ·cases h3
 | e i fl t alt ih1 ih2 =>
  intro pre h
  simp only [tchk, Bool.and_eq_true, decide_eq_true_eq] at h
  obtain ⟨⟨⟨⟨⟨h1, h2⟩, h3⟩, h4⟩, h5⟩, h6⟩ := h
  refine ⟨⟨h1, h2, fun x hx => ?_, cchk_ok h4, ih1 _ h5⟩, ?_⟩
  ·have := List.all_eq_true.1 h3 x hx
   simp only [Bool.and_eq_true, Bool.or_eq_true] at this
   have hp := pchk_ok (es := es) this.1
   refine ⟨hp, fun he => ?_⟩
   rcases this.2 with (q | q) | q
   ·rw [he] at q; cases q
   ·rcases anc_reach (es := es) (by simpa using q) with e | hr
    ·exact absurd e hp.ne
    ·exact .inl hr
   ·exact .inr (by simpa using q)
  ·cases alt with
   | nil => trivial
   | r j u => cases h6
   | e j fl' u alt' => exact ih2 _ h6
theorem advanceT {aops : List AOp} {es : List (List Nat)} {n : Nat} {h : Heap} {K : Env → Heap → Prop} : ∀ (t : OT) (pre : List Nat) (ρ : Env), TOK aops es n t pre → cov es n pre t → dwpT P G aops K t ρ h →
  ∃ rs t' ρ', (∀ r ∈ rs, (aops.getD r default).isE = false) ∧ isR t' = false ∧ TOK aops es n t' (pre ++ rs) ∧ cov es n (pre ++ rs) t' ∧ dwpT P G aops K t' ρ' h ∧
   (∀ s, (∀ r ∈ rs, (aops.getD r default).d ≠ some s) → lk ρ' s = lk ρ s) ∧ (∀ r ∈ rs, pend G (aops.getD r default) ρ' h) ∧
   (∀ r ∈ rs, ∃ d, (aops.getD r default).d = some d ∧ d ∉ (aops.getD r default).reads) ∧ (∀ r ∈ rs, ∀ x ∈ pre, Pair3 aops es x r) ∧ rs.Pairwise (Pair3 aops es) := by
 intro t
 induction t with
 | nil => intro pre ρ hk hc hq; exact ⟨[], .nil, ρ, by simp, rfl, by simpa using hk, by simpa using hc, hq, fun _ _ => rfl, by simp, by simp, by simp, .nil⟩
 | e i fl t alt _ _ => intro pre ρ hk hc hq; exact ⟨[], .e i fl t alt, ρ, by simp, rfl, by rw [List.append_nil]; exact hk, by rw [List.append_nil]; exact hc, hq, fun _ _ => rfl, by simp, by simp, by simp, .nil⟩
 | r i t ih =>
  intro pre ρ hk hc hq
  obtain ⟨hi, he, ⟨d, hd, hdr⟩, hp, hcv, hk'⟩ := hk
  have hgo : ∀ (ρ1 : Env) (v : AV), ρ1 = put (some d) v ρ → dwpT P G aops K t ρ1 h → pend G (aops.getD i default) ρ1 h →
    ∃ rs t' ρ', (∀ r ∈ rs, (aops.getD r default).isE = false) ∧ isR t' = false ∧ TOK aops es n t' (pre ++ rs) ∧ cov es n (pre ++ rs) t' ∧ dwpT P G aops K t' ρ' h ∧
     (∀ s, (∀ r ∈ rs, (aops.getD r default).d ≠ some s) → lk ρ' s = lk ρ s) ∧ (∀ r ∈ rs, pend G (aops.getD r default) ρ' h) ∧
     (∀ r ∈ rs, ∃ d, (aops.getD r default).d = some d ∧ d ∉ (aops.getD r default).reads) ∧ (∀ r ∈ rs, ∀ x ∈ pre, Pair3 aops es x r) ∧ rs.Pairwise (Pair3 aops es) := by
   intro ρ1 v hρ hq1 hpd
   obtain ⟨rs, t', ρ', h1, h2, h3, h4, h5, h6, h7, h8, h9, h10⟩ := ih (pre ++ [i]) ρ1 hk' hcv hq1
   refine ⟨i :: rs, t', ρ', ?_, h2, by simpa using h3, by simpa using h4, h5, ?_, ?_, ?_, ?_, ?_⟩
   ·intro r hr
    rcases List.mem_cons.1 hr with rfl | hr
    ·exact he
    ·exact h1 r hr
   ·intro s hs
    rw [h6 s fun r hr => hs r (by simp [hr]), hρ, lk_put, if_neg]
    intro e
    cases e
    exact hs i (by simp) hd
   ·intro r hr
    rcases List.mem_cons.1 hr with rfl | hr
    ·rw [← pend_congr (ρ := ρ1)]
     ·exact hpd
     ·intro s hs
      refine (h6 s fun r' hr' hd' => ?_).symm
      have := ((h9 r' hr' r (by simp)).anti s hd' hs).1
      rw [h1 r' hr'] at this
      cases this
     ·intro d' hd'
      refine (h6 d' fun r' hr' hd'' => ?_).symm
      have := ((h9 r' hr' r (by simp)).out d' hd' hd'').1
      rw [he] at this
      cases this
    ·exact h7 r hr
   ·intro r hr
    rcases List.mem_cons.1 hr with rfl | hr
    ·exact ⟨d, hd, hdr⟩
    ·exact h8 r hr
   ·intro r hr x hx
    rcases List.mem_cons.1 hr with rfl | hr
    ·exact hp x hx
    ·exact h9 r hr x (by simp [hx])
   ·exact .cons (fun r hr => h9 r hr i (by simp)) h10
  simp only [dwpT] at hq
  split at hq
  ·exact hq.elim
  ·rename_i o ho
   have hgo' : aops.getD i default = o := by rw [List.getD_eq_getElem?_getD, ho]; rfl
   rw [hgo'] at he hd hdr hgo
   unfold dw1 at hq
   cases hk : o.k with
   | e k => simp [AOp.isE, hk] at he
   | r k =>
    rw [hk, hd] at hq
    simp only at hq
    have hlk : ∀ (v : AV) (s : Nat), s ∈ o.reads → lk (put (some d) v ρ) s = lk ρ s := fun v s hs => by
     rw [lk_put, if_neg]
     intro e
     cases e
     exact hdr hs
    have hev : ∀ v, evR G k (put (some d) v ρ) h = evR G k ρ h := fun v => evR_congr fun x hx => xv_congr x fun s hs => hlk v s (reads_r hk hx hs)
    cases hgd : o.g with
    | none =>
     rw [hgd] at hq
     simp only [gd] at hq
     split at hq
     ·rename_i v hv
      refine hgo _ v rfl hq ?_
      simp only [pend, hk, hd, hgd, gd]
      rw [hev, hv, lk_put, if_pos rfl]
     ·exact hq.elim
    | some x =>
     obtain ⟨s, want⟩ := x
     have hs := reads_guard hgd
     rw [hgd] at hq
     simp only [gd] at hq
     split at hq
     ·rename_i b hb
      by_cases hbw : b = want
      ·have hq' := hq.1 hbw
       split at hq'
       ·rename_i v hv
        refine hgo _ v rfl hq' ?_
        simp only [pend, hk, hd, hgd, gd]
        rw [hlk v s hs, hb]
        refine ⟨fun _ => ?_, fun hne => absurd hbw hne⟩
        rw [hev, hv, lk_put, if_pos rfl]
       ·exact hq'.elim
      ·refine hgo _ _ rfl (hq.2 hbw) ?_
       simp only [pend, hk, hd, hgd, gd]
       rw [hlk _ s hs, hb]
       refine ⟨fun e => absurd e hbw, fun _ => ?_⟩
       rw [lk_put, if_pos rfl]
     ·rename_i hb
      refine hgo _ _ rfl hq ?_
      simp only [pend, hk, hd, hgd, gd]
      rw [hlk _ s hs, hb]
      simp only
      rw [lk_put, if_pos rfl]
     ·exact hq.elim
theorem alt_pick {aops : List AOp} {es : List (List Nat)} {n : Nat} {h : Heap} {ρ : Env} {K : Env → Heap → Prop} {pre : List Nat} {i : Nat} : ∀ (t : OT), TOK aops es n t pre → dwpT P G aops K t ρ h → i ∈ alts t →
  ∃ fl t', i < n ∧ (aops.getD i default).isE = true ∧ (∀ x ∈ pre, Pair3 aops es x i ∧ ((aops.getD x default).isE = false → Reach es x i ∨ x ∈ fl)) ∧ cov es n (pre ++ [i]) t' ∧ TOK aops es n t' (pre ++ [i]) ∧
   (match aops[i]? with | none => False | some o => dw1 P G aops fl ρ h (dwpT P G aops K t') o) := by
 intro t
 induction t with
 | nil => intro _ _ hi; cases hi
 | r j t _ => intro _ _ hi; cases hi
 | e j fl t alt _ ih2 =>
  intro hk hq hi
  obtain ⟨⟨h1, h2, h3, h4, h5⟩, h6⟩ := hk
  simp only [dwpT] at hq
  simp only [alts, List.mem_cons] at hi
  rcases hi with rfl | hi
  ·exact ⟨fl, t, h1, h2, h3, h4, h5, hq.1⟩
  ·cases alt with
   | nil => cases hi
   | r _ _ => cases hi
   | e j' fl' u alt' => exact ih2 h6 hq.2 hi
structure InvT (P : Program) (G : Glo) (w0 : W0) (h0 : Heap) (N : Nat) (aops : List AOp) (es : List (List Nat)) (K : Env → Heap → Prop) (n : Nat)
  (listed : Array Bool) (a : Act) (w : World) (pre : List Nat) (t : OT) (ρ : Env) (h : Heap) : Prop where
 size : listed.size = n
 sub : ∀ i, listed.getD i false = true → i ∈ pre
 closed : ∀ x, listed.getD x false = true → ∀ y ∈ es.getD x [], listed.getD y false = true
 head : isR t = false
 tok : TOK aops es n t pre
 cv : cov es n pre t
 walk : dwpT P G aops K t ρ h
 pw : pre.Pairwise (Pair3 aops es)
 own : ∀ x ∈ pre, (aops.getD x default).isE = false → ∃ d, (aops.getD x default).d = some d ∧ d ∉ (aops.getD x default).reads
 nd : a.defers = w0.2
 sz : a.tmps.size = N
 env : ∀ s, (∀ x ∈ pre, listed.getD x false = false → (aops.getD x default).d ≠ some s) → Rep w h.dom (lk ρ s) (a.tmps.getD s undef)
 heap : HRep w h
 glo : GRep G w h.dom
 fr : Fr w0.1 h0 w h
 pen : ∀ x ∈ pre, listed.getD x false = false → (aops.getD x default).isE = false ∧ pend G (aops.getD x default) ρ h
theorem dregT_inv {w0 : W0} {h0 : Heap} {N : Nat} {ops : Array Oper} {aops : List AOp} (ht : ops.toList.mapM (trOp P N ops) = some (aops.map AOp.bare))
  (htopo : ∀ j, j < ops.size → ∀ y ∈ (ops.toList.map edgesOf).getD j [], y < j)
  {R : Exit → Act → World → Prop} {K : Env → Heap → Prop} (hR : ∀ ρ h a w, K ρ h → Sim G w0 h0 N ρ h a w → R .normal a w) {ro : Option Nat} :
  ∀ (fuel : Nat) (listed : Array Bool) (a : Act) (w : World) (pre : List Nat) (t : OT) (ρ : Env) (h : Heap), (List.range ops.size).countP (fun x => !(listed.getD x false)) ≤ fuel →
   InvT P G w0 h0 N aops (ops.toList.map edgesOf) K ops.size listed a w pre t ρ h → wpAnyIn (FR ro) 0 P .any ops R fuel listed a w := by
 obtain ⟨hlen, hget⟩ := mapM_get ht
 generalize hes : ops.toList.map edgesOf = es at *
 have hesi : ∀ i (hi : i < ops.size), es.getD i [] = edgesOf ops[i] := by
  intro i hi
  rw [← hes, List.getD_eq_getElem?_getD, List.getElem?_map]
  simp [hi]
 have hready : ∀ (listed : Array Bool), listed.size = ops.size → ∀ i, i ∈ Region.ready .any ops listed ↔ i < ops.size ∧ listed.getD i false = false ∧ ∀ y ∈ es.getD i [], listed.getD y false = true := by
  intro listed hsz i
  simp only [Region.ready, List.mem_filter, List.mem_range, Bool.and_eq_true, Bool.not_eq_true']
  constructor
  ·rintro ⟨hi, h1, h2⟩
   refine ⟨hi, ?_, ?_⟩
   ·rw [Array.getD_eq_getD_getElem?, Array.getElem?_eq_getElem (by omega)] at h1 ⊢
    exact h1
   ·intro y hy
    rw [hesi i hi] at hy
    simp only [Array.getElem?_eq_getElem hi, Option.map_some, Option.getD_some] at h2
    simp only [edgesOf, List.mem_map, List.mem_filter] at hy
    obtain ⟨e, ⟨he, hb⟩, rfl⟩ := hy
    have := Array.all_eq_true_iff_forall_mem.1 h2 e (by simpa using he)
    simpa [hb] using this
  ·rintro ⟨hi, h1, h2⟩
   refine ⟨hi, ?_, ?_⟩
   ·rw [Array.getD_eq_getD_getElem?, Array.getElem?_eq_getElem (by omega)] at h1 ⊢
    exact h1
   ·simp only [Array.getElem?_eq_getElem hi, Option.map_some, Option.getD_some]
    refine Array.all_eq_true_iff_forall_mem.2 fun e he => ?_
    cases hb : Region.binds .any e with
    | false => rfl
    | true =>
     simp only [Bool.not_true, Bool.false_or]
     refine h2 e.on ?_
     rw [hesi i hi]
     simp only [edgesOf, List.mem_map, List.mem_filter]
     exact ⟨e, ⟨by simpa using he, hb⟩, rfl⟩
 have hfin : ∀ (listed : Array Bool) (a : Act) (w : World) (pre : List Nat) (t : OT) (ρ : Env) (h : Heap), InvT P G w0 h0 N aops es K ops.size listed a w pre t ρ h → Region.ready .any ops listed = [] → R .normal a w := by
  intro listed a w pre t ρ h I hr
  have hd : ∀ j, j < ops.size → listed.getD j false = true := by
   intro j
   induction j using Nat.strongRecOn with
   | _ j ih =>
    intro hj
    cases e : listed.getD j false with
    | true => rfl
    | false =>
     have : j ∈ Region.ready .any ops listed := (hready listed I.size j).2 ⟨hj, e, fun y hy => ih y (htopo j hj y hy) (by have := htopo j hj y hy; omega)⟩
     rw [hr] at this
     cases this
  have hlt : ∀ x ∈ pre, x < ops.size ∨ listed.getD x false = false := fun x _ => by
   by_cases hx : x < ops.size
   ·exact .inl hx
   ·refine .inr ?_
    rw [Array.getD_eq_getD_getElem?, Array.getElem?_eq_none (by have := I.size; omega)]
    rfl
  cases t with
  | nil =>
   refine hR ρ h a w I.walk ⟨I.nd, I.sz, fun s => I.env s fun x hx e => ?_, I.heap, I.glo, I.fr⟩
   by_cases hxn : x < ops.size
   ·rw [hd x hxn] at e; cases e
   ·intro hd'
    have : aops.getD x default = default := by
     rw [List.getD_eq_getElem?_getD, List.getElem?_eq_none]
     ·rfl
     ·rw [List.length_map] at hlen; simp at hlen; omega
    rw [this] at hd'
    cases hd'
  | r i t => have := I.head; cases this
  | e i fl t alt =>
   obtain ⟨⟨h1, _, h3, _⟩, _⟩ := I.tok
   have hi := I.sub i (hd i h1)
   exact absurd rfl (h3 i hi).1.ne
 intro fuel
 induction fuel with
 | zero =>
  intro listed a w pre t ρ h hf I
  have hr : Region.ready .any ops listed = [] := by
   cases e : Region.ready .any ops listed with
   | nil => rfl
   | cons i r =>
    obtain ⟨hi, h1, _⟩ := (hready listed I.size i).1 (by rw [e]; simp)
    have : 0 < (List.range ops.size).countP (fun x => !(listed.getD x false)) := List.countP_pos_iff.2 ⟨i, by simpa using hi, by rw [h1]; rfl⟩
    omega
  exact ⟨hr, hfin _ _ _ _ _ _ _ I hr⟩
 | succ fuel ih =>
  intro listed a w pre t ρ h hf I
  refine ⟨fun hr => hfin _ _ _ _ _ _ _ I hr, fun i hi => ?_⟩
  obtain ⟨hlt, hun, hpreds⟩ := (hready listed I.size i).1 hi
  have hls : i < listed.size := by rw [I.size]; exact hlt
  obtain ⟨bo, hbo, hto⟩ := hget i ops[i] (by simp [hlt])
  rw [List.getElem?_map] at hbo
  obtain ⟨ao, hao, rfl⟩ := Option.map_eq_some_iff.1 hbo
  have hgD : aops.getD i default = ao := by rw [List.getD_eq_getElem?_getD, hao]; rfl
  obtain ⟨hk, hd, hN, hg⟩ := wanted_of hto
  have hdl : ∀ s, ao.d = some s → s < a.tmps.size := fun s hs => by rw [I.sz]; exact hN s (by rw [← hd]; exact hs)
  have hfuel : (List.range ops.size).countP (fun x => !((listed.setIfInBounds i true).getD x false)) ≤ fuel := by
   have := countP_lt (p := fun x : Nat => !(listed.getD x false)) (q := fun x : Nat => !((listed.setIfInBounds i true).getD x false)) (List.range ops.size) (fun y _ hy => by
    rw [getD_set hls] at hy
    split at hy
    ·cases hy
    ·exact hy) ⟨i, by simpa using hlt, by simp only [hun]; rfl, by rw [getD_set hls, if_pos rfl]; rfl⟩
   omega
  have hclosed : ∀ x, (listed.setIfInBounds i true).getD x false = true → ∀ y ∈ es.getD x [], (listed.setIfInBounds i true).getD y false = true := by
   intro x hx y hy
   rw [getD_set hls] at hx ⊢
   split
   ·rfl
   ·split at hx
    ·rename_i e; subst e; exact hpreds y hy
    ·exact I.closed x hx y hy
  have hreach : ∀ {j : Nat}, Reach es j i → listed.getD j false = true := fun hr => hr.closed (T := fun x => listed.getD x false = true) I.closed hpreds
  -- what the operation reads is at hand
  have hslots : (∃ fl' : List Nat, i ∈ pre ∨ ∀ x ∈ pre, Pair3 aops es x i ∧ ((aops.getD x default).isE = false → Reach es x i ∨ x ∈ fl')) → ∀ s ∈ ao.reads, Rep w h.dom (lk ρ s) (a.tmps.getD s undef) := by
   rintro ⟨fl', hcase⟩ s hs
   refine I.env s fun x hx hxu hxd => ?_
   obtain ⟨hxe, _⟩ := I.pen x hx hxu
   by_cases hxi : x = i
   ·subst hxi
    obtain ⟨d, h1, h2⟩ := I.own x hx hxe
    rw [hgD] at h1 h2 hxd
    rw [h1] at hxd
    cases hxd
    exact h2 hs
   ·have hc2 : Pair3 aops es x i ∨ Pair3 aops es i x := by
     rcases hcase with hy | hy
     ·have := List.Pairwise.forall_of_forall_of_flip (R := fun x y => x = y ∨ Pair3 aops es x y ∨ Pair3 aops es y x) (l := pre) (fun x _ => .inl rfl)
       (I.pw.imp fun h => .inr (.inl h)) (I.pw.imp fun h => .inr (.inr h)) hx hy
      rcases this with e | h | h
      ·exact absurd e hxi
      ·exact .inl h
      ·exact .inr h
     ·exact .inl (hy x hx).1
    rcases hc2 with ok | ok
    ·have := hreach (ok.flow s hxd (by rw [hgD]; exact hs))
     rw [hxu] at this
     cases this
    ·have := (ok.anti s hxd (by rw [hgD]; exact hs)).1
     rw [hxe] at this
     cases this
  have hkeep : (∀ s ∈ ao.reads, Rep w h.dom (lk ρ s) (a.tmps.getD s undef)) → ERep w h.dom (keep ao.reads ρ) a := by
   intro hslots s
   by_cases hs : s ∈ ao.reads
   ·rw [lk_keep_mem hs]; exact hslots s hs
   ·rcases lk_keep ao.reads ρ s with e | e
    ·have : lk (keep ao.reads ρ) s = .any := by
      clear e
      generalize ao.reads = l at hs
      induction l with
      | nil => rfl
      | cons k ks ih =>
       simp only [List.mem_cons, not_or] at hs
       simp only [keep, List.map_cons, lk]
       have hb : (s == k) = false := by simpa using hs.1
       rw [hb]
       exact ih hs.2
     rw [this]; exact .any _
    ·rw [e]; exact .any _
  have hkr : ∀ x : Operand, (∀ s ∈ slot x, s ∈ ao.reads) → xv G (keep ao.reads ρ) x = xv G ρ x := fun x hs => xv_congr x fun s h => lk_keep_mem (hs s h)
  have hoi : ops[i]? = some ops[i] := Array.getElem?_eq_getElem hlt
  have hne : ∀ {x : Nat}, (listed.setIfInBounds i true).getD x false = false → x ≠ i ∧ listed.getD x false = false := by
   intro x hx
   rw [getD_set hls] at hx
   split at hx
   ·cases hx
   ·rename_i e; exact ⟨e, hx⟩
  by_cases hpre : i ∈ pre
  ·-- it has been walked: it looks again, and sees the same
   obtain ⟨hxe, hpend⟩ := I.pen i hpre hun
   have hsl := hslots ⟨[], .inl hpre⟩
   have hx : ∀ x : Operand, Rep w h.dom (xv G (keep ao.reads ρ) x) (a.eval x) := fun x => rep_xv I.glo (hkeep hsl) x
   have hgd := fun (yes no : Prop) => gd_sound (w := w) (O := h.dom) (ρ := ρ) (a := a) (yes := yes) (no := no) hg (fun s want e => hsl s (reads_guard e))
   rw [hgD] at hxe hpend
   unfold pend at hpend
   cases hkk : ao.k with
   | e k => simp [hkk] at hpend
   | r k =>
    cases hdd : ao.d with
    | none => simp [hkk, hdd] at hpend
    | some d =>
     rw [hkk, hdd] at hpend
     simp only at hpend
     have fin : ∀ c, Rep w h.dom (lk ρ d) c → wpAnyIn (FR ro) 0 P .any ops R fuel (listed.setIfInBounds i true) (a.put (some d) c) w := by
      intro c hc'
      refine ih _ _ _ pre t ρ h hfuel ⟨by simpa using I.size, ?_, hclosed, I.head, I.tok, I.cv, I.walk, I.pw, I.own, I.nd, by rw [put_size]; exact I.sz, ?_, I.heap, I.glo, I.fr, ?_⟩
      ·intro j hj
       rw [getD_set hls] at hj
       split at hj
       ·rename_i e; rw [e]; exact hpre
       ·exact I.sub j hj
      ·intro s hs
       by_cases e : s = d
       ·subst e
        have := hdl s hdd
        simp [Act.put, Array.getD_eq_getD_getElem?, this]; exact hc'
       ·have h1 : (a.put (some d) c).tmps.getD s undef = a.tmps.getD s undef := by
         simp only [Act.put]
         rw [Array.getD_eq_getD_getElem?, Array.getElem?_setIfInBounds_ne (Ne.symm e), ← Array.getD_eq_getD_getElem?]
        rw [h1]
        refine I.env s fun z hz hzu hzd => ?_
        by_cases hzi : z = i
        ·rw [hzi, hgD, hdd] at hzd
         cases hzd
         exact e rfl
        ·exact hs z hz (by rw [getD_set hls, if_neg hzi]; exact hzu) hzd
      ·intro z hz hzu
       exact I.pen z hz (hne hzu).2
     unfold Go.wpOpIn
     rw [hoi]
     simp only
     rcases hgd _ _ hpend with ⟨hw, hy⟩ | ⟨hw, hno⟩
     ·rw [if_pos hw]
      have hev : evR G k (keep ao.reads ρ) h = some (lk ρ d) := by
       rw [← hy]
       exact evR_congr fun x hx => hkr x fun s hs => reads_r hkk hx hs
      obtain ⟨c, r1, r2⟩ := evR_sound ops[i] (hk.trans (by rw [hkk]; rfl)) I.heap (fun x _ => hx x) hev
      refine wpIn_run (fun c e => by rw [e] at hk; rw [hkk] at hk; cases hk) ?_
      rw [r1, Oper.uponIn_value, ← hd, hdd]
      exact fin c r2
     ·rw [if_neg (by rw [hw]; simp), ← hd, hdd]
      refine ⟨fun _ _ => trivial, ?_⟩
      exact fin undef (by rw [hno]; exact rep_undef)
  ·-- it is one that may act next
   have hal : i ∈ alts t := by
    cases t with
    | nil => exact absurd (I.tok i hlt) hpre
    | r j u => have := I.head; cases this
    | e j fl u alt =>
     rcases I.cv i hlt hpre with q | ⟨z, hz, hzp, hr⟩
     ·exact q
     ·exact absurd (I.sub z (hreach hr)) hzp
   obtain ⟨fl, t', _, hye, hpairs, hcv, htok, hwalk⟩ := alt_pick t I.tok I.walk hal
   rw [hgD] at hye
   have hsl := hslots ⟨fl, .inr hpairs⟩
   have hx : ∀ x : Operand, Rep w h.dom (xv G (keep ao.reads ρ) x) (a.eval x) := fun x => rep_xv I.glo (hkeep hsl) x
   have hgd := fun (yes no : Prop) => gd_sound (w := w) (O := h.dom) (ρ := ρ) (a := a) (yes := yes) (no := no) hg (fun s want e => hsl s (reads_guard e))
   rw [hao] at hwalk
   simp only [dw1] at hwalk
   cases hkk : ao.k with
   | r k => simp [AOp.isE, hkk] at hye
   | e k =>
    rw [hkk] at hwalk
    simp only at hwalk
    have fin : ∀ c w' av h', HRep w' h' → Rep w' h'.dom av c → Fr w h w' h' → (∀ x ∈ pre, listed.getD x false = false → pend G (aops.getD x default) ρ h') → dwpT P G aops K t' (put ao.d av ρ) h' →
      wpAnyIn (FR ro) 0 P .any ops R fuel (listed.setIfInBounds i true) (a.put ao.d c) w' := by
     intro c w' av h' q1 q2 q3 q4 q5
     obtain ⟨rs, t2, ρ', e2, e3, k1, k2, e4, e5, e6, k3, k4, k5⟩ := advanceT t' (pre ++ [i]) (put ao.d av ρ) htok hcv q5
     have hrsu : ∀ r ∈ rs, (listed.setIfInBounds i true).getD r false = false := by
      intro r hr
      rw [getD_set hls, if_neg (Ne.symm (k4 r hr i (by simp)).ne)]
      cases e : listed.getD r false with
      | false => rfl
      | true => exact absurd rfl (k4 r hr r (by simp [I.sub r e])).ne
     refine ih _ _ _ (pre ++ [i] ++ rs) t2 ρ' h' hfuel ⟨by simpa using I.size, ?_, hclosed, e3, k1, k2, e4, ?_, ?_, by rw [put_nd]; exact I.nd, by rw [put_size]; exact I.sz, ?_, q1, I.glo.keep q3.keeps, I.fr.trans q3, ?_⟩
     ·intro j hj
      rw [getD_set hls] at hj
      split at hj
      ·rename_i e; simp [e]
      ·have := I.sub j hj
       simp [this]
     ·refine List.pairwise_append.2 ⟨List.pairwise_append.2 ⟨I.pw, List.pairwise_singleton _ _, fun x hx y hy => ?_⟩, k5, fun x hx y hy => k4 y hy x hx⟩
      obtain rfl : y = i := by simpa using hy
      exact (hpairs x hx).1
     ·intro x hx hxe
      simp only [List.mem_append, List.mem_singleton] at hx
      rcases hx with (hx | rfl) | hx
      ·exact I.own x hx hxe
      ·rw [hgD, hye] at hxe; cases hxe
      ·exact k3 x hx
     ·intro s hs'
      rw [e5 s fun r hr hd' => hs' r (by simp [hr]) (hrsu r hr) hd', lk_put]
      by_cases e : ao.d = some s
      ·rw [if_pos e]
       have := hdl s e
       simp [e, Act.put, Array.getD_eq_getD_getElem?, this]; exact q2
      ·rw [if_neg e]
       have h1 : (a.put ao.d c).tmps.getD s undef = a.tmps.getD s undef := by
        cases hdd : ao.d with
        | none => rfl
        | some d =>
         have hne' : d ≠ s := fun e' => e (by rw [hdd, e'])
         simp only [Act.put]
         rw [Array.getD_eq_getD_getElem?, Array.getElem?_setIfInBounds_ne hne', ← Array.getD_eq_getD_getElem?]
       rw [h1]
       refine (I.env s fun z hz hzu hzd => ?_).keep q3.keeps
       have hzy : z ≠ i := fun e' => hpre (e' ▸ hz)
       exact hs' z (by simp [hz]) (by rw [getD_set hls, if_neg hzy]; exact hzu) hzd
     ·intro x hx hxu
      obtain ⟨hxy, hxu'⟩ := hne hxu
      simp only [List.mem_append, List.mem_singleton] at hx
      rcases hx with (hx | rfl) | hx
      ·obtain ⟨hxe, _⟩ := I.pen x hx hxu'
       refine ⟨hxe, ?_⟩
       have hnr : ¬ Reach es x i := fun hr => by
        have := hreach hr
        rw [hxu'] at this
        cases this
       rw [← pend_congr (ρ := ρ)]
       ·exact q4 x hx hxu'
       ·intro s hs'
        rw [e5 s fun r hr hd' => ?_, lk_put, if_neg]
        ·intro e
         exact hnr ((hpairs x hx).1.anti s (by rw [hgD]; exact e) hs').2
        ·have := ((k4 r hr x (by simp [hx])).anti s hd' hs').1
         rw [e2 r hr] at this
         cases this
       ·intro d hd'
        rw [e5 d fun r hr hd'' => ?_, lk_put, if_neg]
        ·intro e
         have := ((hpairs x hx).1.out d hd' (by rw [hgD]; exact e)).1
         rw [hxe] at this
         cases this
        ·have := ((k4 r hr x (by simp [hx])).out d hd' hd'').1
         rw [hxe] at this
         cases this
      ·exact absurd rfl hxy
      ·exact ⟨e2 x hx, e6 x hx⟩
    unfold Go.wpOpIn
    rw [hoi]
    simp only
    rcases hgd _ _ hwalk with ⟨hw, hy⟩ | ⟨hw, hno⟩
    ·rw [if_pos hw]
     have hy' : stE P G k (keep ao.reads ρ) h (fun v h' => stb G aops ρ h' fl ∧ dwpT P G aops K t' (put ao.d v ρ) h') := by
      rw [stE_congr (ρ' := ρ) fun x hx => hkr x fun s hs => reads_e hkk hx hs]
      exact hy
     refine stE_sound ops[i] (hk.trans (by rw [hkk]; rfl)) I.heap I.glo (fun x _ => hx x) hy' ?_
     intro c w' av h' ⟨q5, q6⟩ q1 q2 q3
     rw [← hd]
     refine fin c w' av h' q1 q2 q3 ?_ q6
     intro x hx hxu
     obtain ⟨hxe, _⟩ := I.pen x hx hxu
     rcases (hpairs x hx).2 hxe with hr | hm
     ·have := hreach hr
      rw [hxu] at this
      cases this
     ·have key : ∀ (l : List Nat), stb G aops ρ h' l → ∀ j ∈ l, pend G (aops.getD j default) ρ h' := by
       intro l
       induction l with
       | nil => intro _ j hj; cases hj
       | cons j0 l ihl =>
        intro hst j hj
        simp only [stb] at hst
        rcases List.mem_cons.1 hj with rfl | hj
        ·have := hst.1
         split at this
         ·rename_i o ho
          rw [List.getD_eq_getElem?_getD, ho]
          exact this
         ·exact this.elim
        ·exact ihl hst.2 j hj
      exact key fl q5 x hm
    ·rw [if_neg (by rw [hw]; simp), ← hd]
     exact ⟨fun _ _ => trivial, fin undef w (.tup []) h I.heap rep_undef (Fr.refl _ _) (fun x hx hxu => (I.pen x hx hxu).2) hno⟩
def dokT (ops : List AOp) (es : List (List Nat)) (t : OT) : Bool :=
 tchk ops es ops.length t [] && cchk es ops.length [] t && (List.range ops.length).all fun j => (es.getD j []).all fun y => decide (y < j)
theorem Wp.dregt {N : Nat} {ρ : Env} {h : Heap} {Q : Exit → Env → Heap → Prop} (hm : P.follows .mixedOrders = true) {ops : List AOp} {es : List (List Nat)} {t : OT} (hd : dokT ops es t = true)
  (hq : dwpT P G ops (Q .normal) t ρ h) : Wp P G N (.dregt ops es t) ρ h Q := by
 intro ro c hc w0 h0 a w hs
 obtain ⟨id, l, rfl, ht, hes⟩ := inv_any (ac := .dreg (ops.map AOp.bare) es []) hc
 subst hes
 simp only [dokT, Bool.and_eq_true] at hd
 obtain ⟨⟨d1, d2⟩, d3⟩ := hd
 obtain ⟨hlen, _⟩ := mapM_get ht
 have hsz : ops.length = l.size := by rw [List.length_map] at hlen; rw [← hlen]; simp
 rw [hsz] at d1 d2 d3
 obtain ⟨rs, t', ρ', e2, e3, k1, k2, e4, e5, e6, k3, k4, k5⟩ := advanceT t [] ρ (tchk_ok t [] d1) (cchk_ok d2) hq
 have hs' : Sim G w0 h0 N ρ h a { w with drawn := w.drawn + 1 } := by
  have hk : Keeps w h.dom { w with drawn := w.drawn + 1 } h.dom := ⟨Nat.le_refl _, fun b _ ho => ⟨ho, rfl⟩, fun _ h => h⟩
  refine ⟨hs.nd, hs.sz, hs.env.keep hk, ?_, hs.glo.keep hk, ⟨hs.fr.size, hs.fr.blk, hs.fr.cel, hs.fr.os, hs.fr.tape, hs.fr.out⟩⟩
  intro b x hb
  exact own_keep (hs.heap b x hb) rfl hk
 have hrep : ∀ x : Nat, (Array.replicate l.size false).getD x false = false := fun x => by
  rw [Array.getD_eq_getD_getElem?, Array.getElem?_replicate]
  split <;> rfl
 refine wpIn_region_any hm ?_
 refine dregT_inv (w0 := w0) (h0 := h0) ht (fun j hj y hy => ?_) (R := fun e a' w' => ∃ ρ' h', Q e ρ' h' ∧ Sim G w0 h0 N ρ' h' a' w') (K := Q .normal) (fun ρ' h' a' w' q s => ⟨ρ', h', q, s⟩)
  l.size _ a _ rs t' ρ' h ?_ ⟨by simp, fun i hi => ?_, fun x hx => ?_, e3, by simpa using k1, by simpa using k2, e4, k5, fun x hx _ => k3 x hx, hs'.nd, hs'.sz, fun s hs2 => ?_, hs'.heap, hs'.glo, hs'.fr, fun x hx _ => ⟨e2 x hx, e6 x hx⟩⟩
 ·have := List.all_eq_true.1 (List.all_eq_true.1 d3 j (by simpa using hj)) y hy
  simpa using this
 ·exact Nat.le_trans List.countP_le_length (by simp)
 ·rw [hrep] at hi; cases hi
 ·rw [hrep] at hx; cases hx
 ·rw [e5 s fun r hr hd' => hs2 r hr (hrep r) hd']
  exact hs'.env s
end
end Go.Ab
namespace Go.Ab
def trF (P : Program) (fn : Func) : Option (ACode × List RV) :=
 match fn.body with
 | some c => match trC P fn.ntmps c, fn.results.toList.mapM (trRV P) with
  | some a, some r => some (a, r)
  | _, _ => none
 | none => none
theorem SpecD.of_tr {P : Program} {G : Glo} {f : FuncId} {fn : Func} {ac : ACode} {rs : List RV} {args : List AV} {h : Heap} {Q : AV → Heap → Prop} (hf : P.funcs[f]? = some fn)
  (ht : trF P fn = some (ac.bare, rs)) (hn : args.length ≤ fn.ntmps) (hw : Wp P G fn.ntmps ac (argEnv args) h (retQ rs Q)) : SpecD P G f args h Q := by
 unfold trF at ht
 split at ht
 ·rename_i c hc
  split at ht
  ·rename_i a r h1 h2
   cases ht
   exact SpecD.of_body hf hc h1 h2 hn hw
  ·cases ht
 ·cases ht
theorem Spec.of_tr {P : Program} {G : Glo} {f : FuncId} {fn : Func} {ac : ACode} {rs : List RV} {args : List AV} {h : Heap} {Q : AV → Heap → Prop} (hf : P.funcs[f]? = some fn)
  (ht : trF P fn = some (ac.bare, rs)) (hn : args.length ≤ fn.ntmps) (hw : Wp P G fn.ntmps ac (argEnv args) h (retQ rs Q)) : Spec P G f args h Q := by
 unfold trF at ht
 split at ht
 ·rename_i c hc
  split at ht
  ·rename_i a r h1 h2
   cases ht
   exact Spec.of_body hf hc h1 h2 hn hw
  ·cases ht
 ·cases ht
end Go.Ab
end
section
namespace Go.Ab
theorem flat_len {α : Type} (f : α → List AV) (n : Nat) (l : List α) (hf : ∀ x ∈ l, (f x).length = n) : (l.flatMap f).length = l.length * n := by
 induction l with
 | nil => simp
 | cons a r ih =>
  simp only [List.flatMap_cons, List.length_append, List.length_cons]
  rw [hf a (by simp), ih fun x hx => hf x (by simp [hx]), Nat.succ_mul, Nat.add_comm]
theorem flat_drop {α : Type} (f : α → List AV) (n : Nat) (l : List α) (hf : ∀ x ∈ l, (f x).length = n) (j : Nat) (hj : j ≤ l.length) : (l.flatMap f).drop (j * n) = (l.drop j).flatMap f := by
 induction j generalizing l with
 | zero => simp
 | succ j ih =>
  cases l with
  | nil => simp at hj
  | cons a r =>
   have ha := hf a (by simp)
   simp only [List.flatMap_cons, List.drop_succ_cons]
   rw [Nat.succ_mul, Nat.add_comm, ← ha, List.drop_length_add_append, ha]
   exact ih r (fun x hx => hf x (by simp [hx])) (by simpa using hj)
theorem flat_part {α : Type} (f : α → List AV) (n : Nat) (l : List α) (hf : ∀ x ∈ l, (f x).length = n) (j : Nat) (hj : j < l.length) : partOf (l.flatMap f) (j * n) (some n) = some (.agg (f l[j])) := by
 have h1 : j * n + n ≤ (l.flatMap f).length := by
  rw [flat_len f n l hf, ← Nat.succ_mul]; exact Nat.mul_le_mul_right _ hj
 simp only [partOf, if_pos h1]
 rw [flat_drop f n l hf j (by omega), List.drop_eq_getElem_cons hj, List.flatMap_cons]
 have := hf l[j] (List.getElem_mem _)
 rw [← this, List.take_left']
 rfl
end Go.Ab
end
section
namespace Go.Ab
theorem partOf_none (cells : List AV) (off : Nat) : partOf cells off none = cells[off]? := rfl
theorem partOf_some (cells : List AV) (off n : Nat) : partOf cells off (some n) = if off + n ≤ cells.length then some (.agg ((cells.drop off).take n)) else none := rfl
@[push_cast] theorem gd_none (ρ : Env) (y n : Prop) : gd none ρ y n = y := rfl
@[push_cast] theorem gd_some (s : Nat) (w : Bool) (ρ : Env) (y n : Prop) : gd (some (s, w)) ρ y n = match lk ρ s with
  | .bool b => (b = w → y) ∧ (b ≠ w → n)
  | .tup _ => n
  | _ => False := rfl
def bindO {α : Type} (o : Option α) (k : α → Prop) : Prop :=
 match o with
 | some v => k v
 | none => False
@[push_cast] theorem bindO_some {α : Type} (v : α) (k : α → Prop) : bindO (some v) k = k v := by rw [bindO]
@[push_cast] theorem bindO_none {α : Type} (k : α → Prop) : bindO none k = False := by rw [bindO]
def callvQ (P : Program) (G : Glo) (args : List AV) (v : AV) (h : Heap) (Q : AV → Heap → Prop) : Prop :=
 match v with
 | .fn f first caps => callable P f ∧ Spec P G f (first ++ args ++ caps) h Q
 | .yl l => YOk P G ∧ G.y l args h Q
 | _ => False
@[push_cast] theorem callvQ_yl (P : Program) (G : Glo) (args : List AV) (l : Nat) (h : Heap) (Q : AV → Heap → Prop) : callvQ P G args (.yl l) h Q = (YOk P G ∧ G.y l args h Q) := by rw [callvQ]
@[push_cast] theorem callvQ_fn (P : Program) (G : Glo) (args : List AV) (f : Nat) (first caps : List AV) (h : Heap) (Q : AV → Heap → Prop) : callvQ P G args (.fn f first caps) h Q = (callable P f ∧ Spec P G f (first ++ args ++ caps) h Q) := by rw [callvQ]
def nilqQ (neg : Bool) (v : AV) (h : Heap) (Q : AV → Heap → Prop) : Prop :=
 match v with
 | .nils => Q (.bool (!neg)) h
 | .sl _ _ _ _ => Q (.bool neg) h
 | .ro _ n => (n = 0 → Q (.bool (!neg)) h) ∧ Q (.bool neg) h
 | _ => False
section
variable (neg : Bool) (h : Heap) (Q : AV → Heap → Prop) (b o n c : Nat) (cs : List AV)
@[push_cast] theorem nilqQ_nils : nilqQ neg .nils h Q = Q (.bool (!neg)) h := by rw [nilqQ]
@[push_cast] theorem nilqQ_sl : nilqQ neg (.sl b o n c) h Q = Q (.bool neg) h := by rw [nilqQ]
@[push_cast] theorem nilqQ_ro : nilqQ neg (.ro cs n) h Q = ((n = 0 → Q (.bool (!neg)) h) ∧ Q (.bool neg) h) := by rw [nilqQ]
end
section
variable (P : Program) (G : Glo) (ρ : Env) (h : Heap) (Q : AV → Heap → Prop) (x y : Operand) (n len sz bytes f : Nat) (cells : List AV) (parts : List (Nat × Nat × Operand)) (args : List Operand) (neg : Bool)
@[push_cast] theorem stE_asg : stE P G (.asg x) ρ h Q = Q (xv G ρ x) h := by rw [stE]
@[push_cast] theorem stE_alc : stE P G (.alc cells) ρ h Q = ∀ b, h b = none → Q (.ptr b 0) (upd h b ⟨cells, 0⟩) := by rw [stE]
@[push_cast] theorem stE_box : stE P G (.box x) ρ h Q = bindO (cellsOf (xv G ρ x)) fun cs => ∀ b, h b = none → Q (.ptr b 0) (upd h b ⟨cs, 0⟩) := by
 rw [stE]; cases cellsOf (xv G ρ x) <;> rfl
@[push_cast] theorem stE_bsl : stE P G (.bsl len cells parts) ρ h Q = bindO (afill (xv G ρ) cells parts) fun cs => ∀ b, h b = none → Q (.sl b 0 len len) (upd h b ⟨cs, 0⟩) := by
 rw [stE]; cases afill (xv G ρ) cells parts <;> rfl
@[push_cast] theorem stE_bxr : stE P G (.bxr x) ρ h Q = bindO (cellsOf (xv G ρ x)) fun cs => Q (.cp cs 0) h := by
 rw [stE]; cases cellsOf (xv G ρ x) <;> rfl
@[push_cast] theorem stE_bsr : stE P G (.bsr len cells parts) ρ h Q = bindO (afill (xv G ρ) cells parts) fun cs => (len = 0 → cs = []) ∧ Q (.ro cs len) h := by
 rw [stE]; cases afill (xv G ρ) cells parts <;> rfl
@[push_cast] theorem stE_st : stE P G (.st n x y) ρ h Q = bindO (asto h n (xv G ρ x) (cellsOf (xv G ρ y))) (Q (.tup [])) := by
 rw [stE]; cases asto h n (xv G ρ x) (cellsOf (xv G ρ y)) <;> rfl
@[push_cast] theorem stE_app : stE P G (.app sz bytes x y) ρ h Q = bindO (addedBy h sz (xv G ρ y)) fun p => appQ sz bytes p.1 p.2 (xv G ρ x) h Q := by
 rw [stE]; cases addedBy h sz (xv G ρ y) <;> rfl
@[push_cast] theorem stE_call : stE P G (.call f args) ρ h Q = Spec P G f (args.map (xv G ρ)) h Q := by rw [stE]
@[push_cast] theorem stE_callv : stE P G (.callv x args) ρ h Q = callvQ P G (args.map (xv G ρ)) (xv G ρ x) h Q := by
 unfold callvQ; rw [stE]; cases xv G ρ x <;> rfl
@[push_cast] theorem stE_nilq : stE P G (.nilq neg x) ρ h Q = nilqQ neg (xv G ρ x) h Q := by
 unfold nilqQ; rw [stE]; cases xv G ρ x <;> rfl
end
/-! Maps whose keys are numbers. -/
def fnd (k k' : IntKind) (n : Int) (es : Array MapEntry) : Option (Option (Nat × Value)) := Instr.findNow (.int k) (.int k' n) es.toList 0
def lkV (k : IntKind) (z : AV) (ok : Bool) (es : Array MapEntry) : AV → Option AV
 | .int k' n => (fnd k k' n es).map (lkA z ok)
 | _ => none
def eqmV (neg : Bool) : AV → Option AV
 | .mpp r => some (.bool (r.isNone != neg))
 | _ => none
def mupE (k' : IntKind) (n : Int) (c : Value) (es : Array MapEntry) (t : Nat) : Option (Nat × Value) → Obj
 | some (j, _) => .map (es.modify j fun e => { e with key := .int k' n, val := c }) t
 | none => .map (es.push { key := .int k' n, val := c, born := t }) (t + 1)
def mupP (k k' : IntKind) (n : Int) (b : Nat) (h : Heap) (Q : AV → Heap → Prop) (c : Value) (p : Array MapEntry × Nat) : Prop :=
 bindO (fnd k k' n p.1) fun r => Q (.tup []) (upd h b ⟨[.raw (mupE k' n c p.1 p.2 r)], 0⟩)
def mupK (k k' : IntKind) (n : Int) (b : Nat) (h : Heap) (Q : AV → Heap → Prop) (c : Value) : Prop := bindO ((h b).bind mapK) (mupP k k' n b h Q c)
def dltE (es : Array MapEntry) (t : Nat) : Option (Nat × Value) → Obj
 | some (j, _) => .map (es.eraseIdxIfInBounds j) t
 | none => .map es t
def dltP (k k' : IntKind) (n : Int) (b : Nat) (h : Heap) (Q : AV → Heap → Prop) (p : Array MapEntry × Nat) : Prop :=
 bindO (fnd k k' n p.1) fun r => Q (.tup []) (upd h b ⟨[.raw (dltE p.1 p.2 r)], 0⟩)
section
variable (P : Program) (G : Glo) (ρ : Env) (h : Heap) (Q : AV → Heap → Prop) (x y i : Operand) (b t j : Nat) (k k' : IntKind) (n : Int) (z a : AV) (ok neg : Bool) (es : Array MapEntry) (v c : Value) (r : Option Nat) (s : ByteArray)
@[push_cast] theorem mapAt_nil : mapAt h (.mpp none) = some (#[], 0) := rfl
@[push_cast] theorem mapAt_some : mapAt h (.mpp (some b)) = (h b).bind mapK := rfl
@[push_cast] theorem mapK_map : mapK ⟨[.raw (.map es t)], 0⟩ = some (es, t) := rfl
@[push_cast] theorem lkV_int : lkV k z ok es (.int k' n) = (fnd k k' n es).map (lkA z ok) := rfl
@[push_cast] theorem lkA_none : lkA z ok none = bif ok then .tup [z, .bool false] else z := rfl
@[push_cast] theorem lkA_some : lkA z ok (some (j, v)) = bif ok then .tup [ofV1 v, .bool true] else ofV1 v := rfl
@[push_cast] theorem evR_lkp : evR G (.lkp k z ok x i) ρ h = (mapAt h (xv G ρ x)).bind fun p => lkV k z ok p.1 (xv G ρ i) := by
 rw [evR]
 cases mapAt h (xv G ρ x) with
 | none => rfl
 | some p => simp only [Option.bind_some]; cases xv G ρ i <;> rfl
@[push_cast] theorem evR_lenm : evR G (.lenm x) ρ h = (mapAt h (xv G ρ x)).map fun e => .int .i64 (e.1.size : Int) := by rw [evR]
@[push_cast] theorem eqmV_mpp : eqmV neg (.mpp r) = some (.bool (r.isNone != neg)) := rfl
@[push_cast] theorem evR_eqm : evR G (.eqm neg x) ρ h = eqmV neg (xv G ρ x) := by rw [evR]; unfold eqmV; rfl
@[push_cast] theorem valM_int : valM (.int k n) = some (.int k n) := rfl
@[push_cast] theorem valM_bool : valM (.bool ok) = some (.bool ok) := rfl
@[push_cast] theorem valM_str : valM (.str s) = some (.string s) := rfl
@[push_cast] theorem valM_mpp : valM (.mpp r) = some (.map r) := rfl
@[push_cast] theorem mupE_some : mupE k' n c es t (some (j, v)) = .map (es.modify j fun e => { e with key := .int k' n, val := c }) t := rfl
@[push_cast] theorem mupE_none : mupE k' n c es t none = .map (es.push { key := .int k' n, val := c, born := t }) (t + 1) := rfl
@[push_cast] theorem mupP_mk : mupP k k' n b h Q c (es, t) = bindO (fnd k k' n es) fun r => Q (.tup []) (upd h b ⟨[.raw (mupE k' n c es t r)], 0⟩) := rfl
@[push_cast] theorem mupK_mk : mupK k k' n b h Q c = bindO ((h b).bind mapK) (mupP k k' n b h Q c) := rfl
@[push_cast] theorem mupQ_mpp : mupQ k (.mpp (some b)) (.int k' n) a h Q = bindO (valM a) (mupK k k' n b h Q) := by
 unfold mupQ
 cases valM a with
 | none => rfl
 | some c =>
  simp only [bindO, mupK]
  cases (h b).bind mapK with
  | none => rfl
  | some p =>
   simp only [mupP, bindO, fnd]
   cases Instr.findNow (.int k) (.int k' n) p.1.toList 0 with
   | none => rfl
   | some r => cases r <;> rfl
@[push_cast] theorem dltE_some : dltE es t (some (j, v)) = .map (es.eraseIdxIfInBounds j) t := rfl
@[push_cast] theorem dltE_none : dltE es t none = .map es t := rfl
@[push_cast] theorem dltP_mk : dltP k k' n b h Q (es, t) = bindO (fnd k k' n es) fun r => Q (.tup []) (upd h b ⟨[.raw (dltE es t r)], 0⟩) := rfl
@[push_cast] theorem dltQ_nil : dltQ k (.mpp none) (.int k' n) h Q = Q (.tup []) h := rfl
@[push_cast] theorem dltQ_mpp : dltQ k (.mpp (some b)) (.int k' n) h Q = bindO ((h b).bind mapK) (dltP k k' n b h Q) := by
 unfold dltQ
 simp only [bindO]
 cases (h b).bind mapK with
 | none => rfl
 | some p =>
  simp only [dltP, bindO, fnd]
  cases Instr.findNow (.int k) (.int k' n) p.1.toList 0 with
  | none => rfl
  | some r => cases r <;> rfl
@[push_cast] theorem stE_mkm : stE P G .mkm ρ h Q = ∀ b, h b = none → Q (.mpp (some b)) (upd h b ⟨[.raw (.map #[] 0)], 0⟩) := by rw [stE]
@[push_cast] theorem stE_mup : stE P G (.mup k x i y) ρ h Q = mupQ k (xv G ρ x) (xv G ρ i) (xv G ρ y) h Q := by rw [stE]
@[push_cast] theorem stE_dlt : stE P G (.dlt k x i) ρ h Q = dltQ k (xv G ρ x) (xv G ρ i) h Q := by rw [stE]
end
section
variable (P : Program) (G : Glo) (ρ : Env) (h : Heap) (Q : AV → Heap → Prop) (x y : Operand) (sz bytes m b o n c : Nat) (z cs : List AV) (k k' : IntKind) (i j : Int)
def cpyK (sz : Nat) (b o : Nat) (m n : Nat) (cs : List AV) (h : Heap) (Q : AV → Heap → Prop) (k : Blk) : Prop :=
 o + n * sz ≤ k.cells.length ∧ Q (.int .i64 ((min m n : Nat) : Int)) (upd h b ⟨splice k.cells o (cs.take (min m n * sz)), k.spare⟩)
@[push_cast] theorem cpyK_app (x : Blk) : cpyK sz b o m n cs h Q x = (o + n * sz ≤ x.cells.length ∧ Q (.int .i64 ((min m n : Nat) : Int)) (upd h b ⟨splice x.cells o (cs.take (min m n * sz)), x.spare⟩)) := by rw [cpyK]
@[push_cast] theorem stE_mks : stE P G (.mks bytes z x y) ρ h Q = mksQ bytes z (xv G ρ x) (xv G ρ y) h Q := by rw [stE]
@[push_cast] theorem mksQ_int : mksQ bytes z (.int k i) (.int k' j) h Q = (0 ≤ i ∧ i ≤ j ∧ j * bytes ≤ 140737488355328 ∧ j ≤ 9223372036854775807 ∧
      ∀ b, h b = none → Q (.sl b 0 i.toNat j.toNat) (upd h b ⟨mkCells z i.toNat, (j - i).toNat * z.length⟩)) := by rw [mksQ]
@[push_cast] theorem stE_cpy : stE P G (.cpy sz x y) ρ h Q = bindO (addedBy h sz (xv G ρ y)) fun p => cpyQ sz p.1 p.2 (xv G ρ x) h Q := by
 rw [stE]; cases addedBy h sz (xv G ρ y) <;> rfl
@[push_cast] theorem cpyQ_nils : cpyQ sz m cs .nils h Q = Q (.int .i64 0) h := by rw [cpyQ]
@[push_cast] theorem cpyQ_sl : cpyQ sz m cs (.sl b o n c) h Q = bindO (h b) (cpyK sz b o m n cs h Q) := by
 rw [cpyQ]; unfold bindO; cases h b <;> rfl
@[push_cast] theorem acap_sl : acap (.sl b o n c) = some c := rfl
@[push_cast] theorem acap_ro : acap (.ro cs n) = some n := rfl
@[push_cast] theorem acap_nils : acap .nils = some 0 := rfl
@[push_cast] theorem aslice3_sl (l hh mm : Nat) : aslice3 sz l hh mm (.sl b o n c) = some (.sl b (o + l * sz) (hh - l) (mm - l)) := rfl
@[push_cast] theorem aslice3_ro (l hh mm : Nat) : aslice3 sz l hh mm (.ro cs n) = some (.ro ((cs.drop (l * sz)).take ((hh - l) * sz)) (hh - l)) := rfl
@[push_cast] theorem aslice3_nils (l hh mm : Nat) : aslice3 sz l hh mm .nils = some .nils := rfl
@[push_cast] theorem mkCells_one (v : AV) : mkCells [v] n = List.replicate n v := rfl
end
section
variable (k k' : IntKind) (a b : Int) (op : BinOp) (s t : ByteArray)
@[push_cast] theorem abin_i_add : abin .add (.int k a) (.int k' b) = if k = k' then some (.int k (k.wrap (a + b))) else none := rfl
@[push_cast] theorem abin_i_sub : abin .sub (.int k a) (.int k' b) = if k = k' then some (.int k (k.wrap (a - b))) else none := rfl
@[push_cast] theorem abin_i_mul : abin .mul (.int k a) (.int k' b) = if k = k' then some (.int k (k.wrap (a * b))) else none := rfl
@[push_cast] theorem abin_i_quo : abin .quo (.int k a) (.int k' b) = if k = k' then (if b = 0 then none else some (.int k (k.wrap (a.tdiv b)))) else none := rfl
@[push_cast] theorem abin_i_rem : abin .rem (.int k a) (.int k' b) = if k = k' then (if b = 0 then none else some (.int k (a.tmod b))) else none := rfl
@[push_cast] theorem abin_i_shl : abin .shl (.int k a) (.int k' b) = if b < 0 then none else some (.int k (k.wrap (a * 2 ^ (min b.toNat k.bits)))) := rfl
@[push_cast] theorem abin_i_shr : abin .shr (.int k a) (.int k' b) = if b < 0 then none else some (.int k (a.fdiv (2 ^ (min b.toNat k.bits)))) := rfl
@[push_cast] theorem abin_i_eql : abin .eql (.int k a) (.int k' b) = if k = k' then some (.bool (a == b)) else none := rfl
@[push_cast] theorem abin_i_neq : abin .neq (.int k a) (.int k' b) = if k = k' then some (.bool (a != b)) else none := rfl
@[push_cast] theorem abin_i_lss : abin .lss (.int k a) (.int k' b) = if k = k' then some (.bool (a < b)) else none := rfl
@[push_cast] theorem abin_i_leq : abin .leq (.int k a) (.int k' b) = if k = k' then some (.bool (a ≤ b)) else none := rfl
@[push_cast] theorem abin_i_gtr : abin .gtr (.int k a) (.int k' b) = if k = k' then some (.bool (a > b)) else none := rfl
@[push_cast] theorem abin_i_geq : abin .geq (.int k a) (.int k' b) = if k = k' then some (.bool (a ≥ b)) else none := rfl
@[push_cast] theorem abin_str : abin op (.str s) (.str t) = match op with
  | .add => if s.size + t.size ≤ 9223372036854775807 then some (.str (s ++ t)) else none
  | .eql => some (.bool (s.toList == t.toList))
  | .neq => some (.bool !(s.toList == t.toList))
  | .lss => some (.bool (Op.bytesLess s.toList t.toList))
  | _ => none := by cases op <;> rfl
end
/-! What comes after an operation is a constant that lacks its last arguments, so that nothing walks on before the operation's value is known. -/
def rwpK (P : Program) (G : Glo) (rest : List AOp) (d : Option Nat) (Q : Env → Heap → Prop) (ρ : Env) (h : Heap) (v : AV) : Prop := rwp P G rest (Ab.put d v ρ) h Q
def rwpL (P : Program) (G : Glo) (rest : List AOp) (d : Option Nat) (Q : Env → Heap → Prop) (ρ : Env) (v : AV) (h : Heap) : Prop := rwp P G rest (Ab.put d v ρ) h Q
def gyR (P : Program) (G : Glo) (r : RK) (rest : List AOp) (d : Option Nat) (Q : Env → Heap → Prop) (ρ : Env) (h : Heap) (_ : Unit) : Prop := bindO (evR G r ρ h) (rwpK P G rest d Q ρ h)
def gyE (P : Program) (G : Glo) (e : EK) (rest : List AOp) (d : Option Nat) (Q : Env → Heap → Prop) (ρ : Env) (h : Heap) (_ : Unit) : Prop := stE P G e ρ h (rwpL P G rest d Q ρ)
def gno (P : Program) (G : Glo) (rest : List AOp) (d : Option Nat) (Q : Env → Heap → Prop) (ρ : Env) (h : Heap) (_ : Unit) : Prop := rwp P G rest (Ab.put d (.tup []) ρ) h Q
def gdV (want : Bool) (v : AV) (yes no : Unit → Prop) : Prop :=
 match v with
 | .bool b => (b = want → yes ()) ∧ (b ≠ want → no ())
 | .tup _ => no ()
 | _ => False
section
variable (P : Program) (G : Glo) (d : Option Nat) (r : RK) (e : EK) (rest : List AOp) (ρ : Env) (h : Heap) (Q : Env → Heap → Prop) (s : Nat) (w : Bool) (v : AV) (u : Unit) (yes no : Unit → Prop) (l : List AV)
@[push_cast] theorem gdV_tt : gdV true (.bool true) yes no = yes () := by simp [gdV]
@[push_cast] theorem gdV_tf : gdV true (.bool false) yes no = no () := by simp [gdV]
@[push_cast] theorem gdV_ft : gdV false (.bool true) yes no = no () := by simp [gdV]
@[push_cast] theorem gdV_ff : gdV false (.bool false) yes no = yes () := by simp [gdV]
@[push_cast] theorem gdV_tup : gdV w (.tup l) yes no = no () := by simp [gdV]
theorem gd_gdV : gd (some (s, w)) ρ (yes ()) (no ()) = gdV w (lk ρ s) yes no := by
 unfold gd gdV; dsimp only; cases lk ρ s <;> rfl
@[push_cast] theorem rwpK_app : rwpK P G rest d Q ρ h v = rwp P G rest (Ab.put d v ρ) h Q := by rw [rwpK]
@[push_cast] theorem rwpL_app : rwpL P G rest d Q ρ v h = rwp P G rest (Ab.put d v ρ) h Q := by rw [rwpL]
@[push_cast] theorem gyR_app : gyR P G r rest d Q ρ h u = bindO (evR G r ρ h) (rwpK P G rest d Q ρ h) := by rw [gyR]
@[push_cast] theorem gyE_app : gyE P G e rest d Q ρ h u = stE P G e ρ h (rwpL P G rest d Q ρ) := by rw [gyE]
@[push_cast] theorem gno_app : gno P G rest d Q ρ h u = rwp P G rest (Ab.put d (.tup []) ρ) h Q := by rw [gno]
@[push_cast] theorem rwp_nil : rwp P G [] ρ h Q = Q ρ h := by rw [rwp]
@[push_cast] theorem rwp_r : rwp P G (⟨d, none, .r r⟩ :: rest) ρ h Q = bindO (evR G r ρ h) (rwpK P G rest d Q ρ h) := by
 rw [rwp]; unfold bindO stp; dsimp only; cases evR G r ρ h <;> rfl
@[push_cast] theorem rwp_e : rwp P G (⟨d, none, .e e⟩ :: rest) ρ h Q = stE P G e ρ h (rwpL P G rest d Q ρ) := by rw [rwp]; rfl
@[push_cast] theorem rwp_gr : rwp P G (⟨d, some (s, w), .r r⟩ :: rest) ρ h Q = gdV w (lk ρ s) (gyR P G r rest d Q ρ h) (gno P G rest d Q ρ h) := by
 rw [← gd_gdV, rwp, gyR_app, gno_app]; unfold bindO stp; dsimp only; cases evR G r ρ h <;> rfl
@[push_cast] theorem rwp_ge : rwp P G (⟨d, some (s, w), .e e⟩ :: rest) ρ h Q = gdV w (lk ρ s) (gyE P G e rest d Q ρ h) (gno P G rest d Q ρ h) := by
 rw [← gd_gdV, rwp, gyE_app, gno_app]; rfl
end
/-! The same for regions of open order. -/
def dst (P : Program) (G : Glo) (o : AOp) (ρ : Env) (h : Heap) (s : Heap → Prop) (q : Env → Heap → Prop) : Prop :=
 gd o.g ρ (match o.k with
  | .r k => bindO (evR G k ρ h) fun v => q (Ab.put o.d v ρ) h
  | .e k => stE P G k ρ h fun v h' => s h' ∧ q (Ab.put o.d v ρ) h') (q (Ab.put o.d (.tup []) ρ) h)
def dwpC (P : Program) (G : Glo) (ops : List AOp) (dr : List (Nat × List Nat)) (Q : Env → Heap → Prop) (ρ : Env) (h : Heap) : Prop := dwp P G ops dr ρ h Q
def stbC (G : Glo) (ops : List AOp) (fl : List Nat) (ρ : Env) (h : Heap) : Prop := stb G ops ρ h fl
def dsK (q : Env → Heap → Prop) (d : Option Nat) (ρ : Env) (h : Heap) (v : AV) : Prop := q (Ab.put d v ρ) h
def dsL (s : Heap → Prop) (q : Env → Heap → Prop) (d : Option Nat) (ρ : Env) (v : AV) (h : Heap) : Prop := s h ∧ q (Ab.put d v ρ) h
def dyR (G : Glo) (r : RK) (d : Option Nat) (q : Env → Heap → Prop) (ρ : Env) (h : Heap) (_ : Unit) : Prop := bindO (evR G r ρ h) (dsK q d ρ h)
def dyE (P : Program) (G : Glo) (e : EK) (d : Option Nat) (s : Heap → Prop) (q : Env → Heap → Prop) (ρ : Env) (h : Heap) (_ : Unit) : Prop := stE P G e ρ h (dsL s q d ρ)
def dno (d : Option Nat) (q : Env → Heap → Prop) (ρ : Env) (h : Heap) (_ : Unit) : Prop := q (Ab.put d (.tup []) ρ) h
section
variable (P : Program) (G : Glo) (d : Option Nat) (r : RK) (e : EK) (ρ : Env) (h : Heap) (Q : Env → Heap → Prop) (c : Nat) (w : Bool) (v : AV) (u : Unit) (s : Heap → Prop) (ops : List AOp) (i : Nat) (fl : List Nat) (dr : List (Nat × List Nat))
@[push_cast] theorem dwpC_app : dwpC P G ops dr Q ρ h = dwp P G ops dr ρ h Q := by rw [dwpC]
@[push_cast] theorem stbC_app : stbC G ops fl ρ h = stb G ops ρ h fl := by rw [stbC]
@[push_cast] theorem dsK_app : dsK Q d ρ h v = Q (Ab.put d v ρ) h := by rw [dsK]
@[push_cast] theorem dsL_app : dsL s Q d ρ v h = (s h ∧ Q (Ab.put d v ρ) h) := by rw [dsL]
@[push_cast] theorem dyR_app : dyR G r d Q ρ h u = bindO (evR G r ρ h) (dsK Q d ρ h) := by rw [dyR]
@[push_cast] theorem dyE_app : dyE P G e d s Q ρ h u = stE P G e ρ h (dsL s Q d ρ) := by rw [dyE]
@[push_cast] theorem dno_app : dno d Q ρ h u = Q (Ab.put d (.tup []) ρ) h := by rw [dno]
@[push_cast] theorem dst_r : dst P G ⟨d, none, .r r⟩ ρ h s Q = bindO (evR G r ρ h) (dsK Q d ρ h) := by unfold dst bindO; rfl
@[push_cast] theorem dst_e : dst P G ⟨d, none, .e e⟩ ρ h s Q = stE P G e ρ h (dsL s Q d ρ) := by unfold dst; rfl
@[push_cast] theorem dst_gr : dst P G ⟨d, some (c, w), .r r⟩ ρ h s Q = gdV w (lk ρ c) (dyR G r d Q ρ h) (dno d Q ρ h) := by
 rw [← gd_gdV]; unfold dst dyR dno bindO; rfl
@[push_cast] theorem dst_ge : dst P G ⟨d, some (c, w), .e e⟩ ρ h s Q = gdV w (lk ρ c) (dyE P G e d s Q ρ h) (dno d Q ρ h) := by
 rw [← gd_gdV]; unfold dst dyE dno; rfl
@[push_cast] theorem dwp_nil : dwp P G ops [] ρ h Q = Q ρ h := by rw [dwp]
def dwpO (P : Program) (G : Glo) (ops : List AOp) (fl : List Nat) (dr : List (Nat × List Nat)) (Q : Env → Heap → Prop) (ρ : Env) (h : Heap) (o : AOp) : Prop := dst P G o ρ h (stbC G ops fl ρ) (dwpC P G ops dr Q)
@[push_cast] theorem dwpO_app (o : AOp) : dwpO P G ops fl dr Q ρ h o = dst P G o ρ h (stbC G ops fl ρ) (dwpC P G ops dr Q) := by rw [dwpO]
@[push_cast] theorem dwp_cons : dwp P G ops ((i, fl) :: dr) ρ h Q = bindO ops[i]? (dwpO P G ops fl dr Q ρ h) := by
 rw [dwp]
 unfold bindO dwpO dst bindO
 cases ops[i]? with
 | none => rfl
 | some o =>
  obtain ⟨d, g, k⟩ := o
  cases k with
  | r k => simp only; cases evR G k ρ h <;> rfl
  | e k => rfl
end
section
variable (P : Program) (G : Glo) (ρ : Env) (h : Heap) (Q : Env → Heap → Prop) (ops : List AOp) (i j : Nat) (fl : List Nat) (t u alt : OT) (p : Prop)
@[push_cast] theorem dwpT_nil : dwpT P G ops Q .nil ρ h = Q ρ h := by rw [dwpT]
def dwTC (P : Program) (G : Glo) (ops : List AOp) (Q : Env → Heap → Prop) (t : OT) (ρ : Env) (h : Heap) : Prop := dwpT P G ops Q t ρ h
@[push_cast] theorem dwTC_app : dwTC P G ops Q t ρ h = dwpT P G ops Q t ρ h := by rw [dwTC]
def dwTO (P : Program) (G : Glo) (ops : List AOp) (fl : List Nat) (Q : Env → Heap → Prop) (t : OT) (ρ : Env) (h : Heap) (o : AOp) : Prop := dst P G o ρ h (stbC G ops fl ρ) (dwTC P G ops Q t)
@[push_cast] theorem dwTO_app (o : AOp) : dwTO P G ops fl Q t ρ h o = dst P G o ρ h (stbC G ops fl ρ) (dwTC P G ops Q t) := by rw [dwTO]
theorem dw1_eq (o : AOp) : dw1 P G ops fl ρ h (dwpT P G ops Q t) o = dwTO P G ops fl Q t ρ h o := by
 unfold dw1 dwTO dst bindO
 obtain ⟨d, g, k⟩ := o
 cases k with
 | r k => simp only; cases evR G k ρ h <;> rfl
 | e k => rfl
@[push_cast] theorem dwpT_r : dwpT P G ops Q (.r i t) ρ h = bindO ops[i]? (dwTO P G ops [] Q t ρ h) := by
 rw [dwpT]; unfold bindO
 cases ops[i]? with
 | none => rfl
 | some o => exact dw1_eq P G ρ h Q ops [] t o
def altC (P : Program) (G : Glo) (ops : List AOp) (Q : Env → Heap → Prop) (alt : OT) (ρ : Env) (h : Heap) : Prop := altQ alt (dwpT P G ops Q alt ρ h)
@[push_cast] theorem altC_nil : altC P G ops Q .nil ρ h = True := by rw [altC]; rfl
@[push_cast] theorem altC_e : altC P G ops Q (.e i fl t alt) ρ h = dwpT P G ops Q (.e i fl t alt) ρ h := by rw [altC]; rfl
@[push_cast] theorem dwpT_e : dwpT P G ops Q (.e i fl t alt) ρ h = (bindO ops[i]? (dwTO P G ops fl Q t ρ h) ∧ altC P G ops Q alt ρ h) := by
 rw [dwpT, altC]; unfold bindO
 cases ops[i]? with
 | none => rfl
 | some o => simp only [dw1_eq]
end
section
variable (h : Heap) (sz l hh n o b c : Nat) (cs : List AV) (k : IntKind) (x : Int)
@[push_cast] theorem cellsOf_int : cellsOf (.int k x) = some [.int k x] := rfl
@[push_cast] theorem cellsOf_bool (x) : cellsOf (.bool x) = some [.bool x] := rfl
@[push_cast] theorem cellsOf_str (x) : cellsOf (.str x) = some [.str x] := rfl
@[push_cast] theorem cellsOf_nilp : cellsOf .nilp = some [.nilp] := rfl
@[push_cast] theorem cellsOf_nils : cellsOf .nils = some [.nils] := rfl
@[push_cast] theorem cellsOf_nilf : cellsOf .nilf = some [.nilf] := rfl
@[push_cast] theorem cellsOf_ptr : cellsOf (.ptr b o) = some [.ptr b o] := rfl
@[push_cast] theorem cellsOf_cp : cellsOf (.cp cs o) = some [.cp cs o] := rfl
@[push_cast] theorem cellsOf_sl : cellsOf (.sl b o n c) = some [.sl b o n c] := rfl
@[push_cast] theorem cellsOf_ro : cellsOf (.ro cs n) = some [.ro cs n] := rfl
@[push_cast] theorem cellsOf_fn (d) : cellsOf (.fn n cs d) = some [.fn n cs d] := rfl
@[push_cast] theorem cellsOf_agg : cellsOf (.agg cs) = some cs := rfl
@[push_cast] theorem asto_ptr : asto h n (.ptr b o) (some cs) = match h b with
  | some x => if cs.length = n ∧ o + n ≤ x.cells.length then some (upd h b ⟨splice x.cells o cs, x.spare⟩) else none
  | none => none := rfl
@[push_cast] theorem splice_one (v : AV) : splice cs o [v] = cs.set o v := rfl
@[push_cast] theorem splice_two (v w : AV) (r) : splice cs o (v :: w :: r) = cs.take o ++ (v :: w :: r) ++ cs.drop (o + (r.length + 2)) := rfl
@[push_cast] theorem splice_none : splice cs o [] = cs := by simp [splice]
@[push_cast] theorem alen_nils : alen .nils = some 0 := rfl
@[push_cast] theorem alen_sl : alen (.sl b o n c) = some n := rfl
@[push_cast] theorem alen_ro : alen (.ro cs n) = some n := rfl
@[push_cast] theorem aslice_sl : aslice sz l hh (.sl b o n c) = some (.sl b (o + l * sz) (hh - l) (c - l)) := rfl
@[push_cast] theorem aslice_ro : aslice sz l hh (.ro cs n) = some (.ro ((cs.drop (l * sz)).take ((hh - l) * sz)) (hh - l)) := rfl
@[push_cast] theorem aslice_nils : aslice sz l hh .nils = some .nils := rfl
@[push_cast] theorem addedBy_nils : addedBy h sz .nils = some (0, []) := rfl
@[push_cast] theorem addedBy_ro : addedBy h sz (.ro cs n) = if cs.length = n * sz then some (n, cs) else none := rfl
@[push_cast] theorem addedBy_sl : addedBy h sz (.sl b o n c) = match h b with
  | some x => if o + n * sz ≤ x.cells.length then some (n, (x.cells.drop o).take (n * sz)) else none
  | none => none := rfl
@[push_cast] theorem addedBy_str (s : ByteArray) : addedBy h sz (.str s) = if sz = 1 then some (s.size, s.data.toList.map fun c => .int .u8 c.toNat) else none := rfl
end
/-! What an operation that looks tells, kind by kind. -/
def pickV (c a b : AV) : Option AV := match c with
 | .bool t => some (bif t then a else b)
 | _ => none
def convV (k : IntKind) (v : AV) : Option AV := match v with
 | .int _ n => some (.int k (k.wrap n))
 | _ => none
def bstrV (h : Heap) (v : AV) : Option AV := match v with
 | .str _ => none
 | v => match addedBy h 1 v with
  | some (_, cells) => (intsOf cells).map fun ns => .str (strOf ns)
  | none => none
def fadV (off : Nat) (v : AV) : Option AV := match v with
 | .ptr b o => some (.ptr b (o + off))
 | .cp cells o => some (.cp cells (o + off))
 | _ => none
def fldV (off : Nat) (n : Option Nat) (v : AV) : Option AV := match v with
 | .agg cells => partOf cells off n
 | _ => none
def ixsV (sz : Nat) (v i : AV) : Option AV := match v, i with
 | .sl b o len _, .int _ j => if 0 ≤ j ∧ j < (len : Int) then some (.ptr b (o + j.toNat * sz)) else none
 | .ro cells len, .int _ j => if 0 ≤ j ∧ j < (len : Int) then some (.cp cells (j.toNat * sz)) else none
 | _, _ => none
def ixaV (n sz : Nat) (v i : AV) : Option AV := match v, i with
 | .ptr b o, .int _ j => if 0 ≤ j ∧ j < (n : Int) then some (.ptr b (o + j.toNat * sz)) else none
 | .cp cells o, .int _ j => if 0 ≤ j ∧ j < (n : Int) then some (.cp cells (o + j.toNat * sz)) else none
 | _, _ => none
def ixvV (n sz : Nat) (m : Option Nat) (v i : AV) : Option AV := match v, i with
 | .agg cells, .int _ j => if 0 ≤ j ∧ j < (n : Int) then partOf cells (j.toNat * sz) m else none
 | _, _ => none
def ixbV (v i : AV) : Option AV := match v, i with
 | .str s, .int _ j => if 0 ≤ j ∧ j < (s.size : Int) then some (.int .u8 (s.data.toList[j.toNat]?.getD 0).toNat) else none
 | _, _ => none
def nckV (v : AV) : Option AV := match v with
 | .ptr b o => some (.ptr b o)
 | .cp cells o => some (.cp cells o)
 | _ => none
def extV (i : Nat) (v : AV) : Option AV := match v with
 | .tup vs => vs[i]?
 | _ => none
def lensV (v : AV) : Option AV := match v with
 | .str s => some (.int .i64 s.size)
 | _ => none
def mmV (mx : Bool) (x y : AV) : Option AV := match x, y with
 | .int k a, .int _ b => some (.int k (bif mx then (if b > a then b else a) else (if b < a then b else a)))
 | _, _ => none
section
variable (G : Glo) (ρ : Env) (h : Heap) (x y z : Operand) (op : BinOp) (u : UnOp) (k k' : IntKind) (n m off sz i : Nat) (on : Option Nat) (neg : Bool) (ks : List CK) (a b c : AV) (cells : List AV) (parts : List (Nat × Nat × Operand)) (xs ys : List Operand) (lo hi : Option Operand) (j : Int) (s : ByteArray) (t : Bool)
@[push_cast] theorem evR_mv : evR G (.mv x) ρ h = some (xv G ρ x) := by rw [evR]
@[push_cast] theorem evR_pick : evR G (.pick x y z) ρ h = pickV (xv G ρ x) (xv G ρ y) (xv G ρ z) := by rw [evR]; unfold pickV; cases xv G ρ x <;> rfl
@[push_cast] theorem evR_bin : evR G (.bin op x y) ρ h = abin op (xv G ρ x) (xv G ρ y) := by rw [evR]
@[push_cast] theorem evR_eqb : evR G (.eqb neg x y) ρ h = abeq neg (xv G ρ x) (xv G ρ y) := by rw [evR]
@[push_cast] theorem evR_eqp : evR G (.eqp neg x y) ρ h = peq neg (xv G ρ x) (xv G ρ y) := by rw [evR]
@[push_cast] theorem evR_eqa : evR G (.eqa neg ks x y) ρ h = aeq neg ks (xv G ρ x) (xv G ρ y) := by rw [evR]
@[push_cast] theorem evR_un : evR G (.un u x) ρ h = aun u (xv G ρ x) := by rw [evR]
@[push_cast] theorem evR_conv : evR G (.conv k x) ρ h = convV k (xv G ρ x) := by rw [evR]; unfold convV; cases xv G ρ x <;> rfl
@[push_cast] theorem evR_bstr : evR G (.bstr x) ρ h = bstrV h (xv G ρ x) := by rw [evR]; unfold bstrV; cases xv G ρ x <;> rfl
@[push_cast] theorem evR_fad : evR G (.fad off x) ρ h = fadV off (xv G ρ x) := by rw [evR]; unfold fadV; cases xv G ρ x <;> rfl
@[push_cast] theorem evR_fld : evR G (.fld off on x) ρ h = fldV off on (xv G ρ x) := by rw [evR]; unfold fldV; cases xv G ρ x <;> rfl
@[push_cast] theorem evR_ixs : evR G (.ixs sz x y) ρ h = ixsV sz (xv G ρ x) (xv G ρ y) := by rw [evR]; unfold ixsV; cases xv G ρ x <;> cases xv G ρ y <;> rfl
@[push_cast] theorem evR_ixa : evR G (.ixa n sz x y) ρ h = ixaV n sz (xv G ρ x) (xv G ρ y) := by rw [evR]; unfold ixaV; cases xv G ρ x <;> cases xv G ρ y <;> rfl
@[push_cast] theorem evR_ixv : evR G (.ixv n sz on x y) ρ h = ixvV n sz on (xv G ρ x) (xv G ρ y) := by rw [evR]; unfold ixvV; cases xv G ρ x <;> cases xv G ρ y <;> rfl
@[push_cast] theorem evR_ixb : evR G (.ixb x y) ρ h = ixbV (xv G ρ x) (xv G ρ y) := by rw [evR]; unfold ixbV; cases xv G ρ x <;> cases xv G ρ y <;> rfl
@[push_cast] theorem evR_ld : evR G (.ld on x) ρ h = ald h on (xv G ρ x) := by rw [evR]
@[push_cast] theorem evR_nck : evR G (.nck x) ρ h = nckV (xv G ρ x) := by rw [evR]; unfold nckV; cases xv G ρ x <;> rfl
@[push_cast] theorem evR_ext : evR G (.ext i x) ρ h = extV i (xv G ρ x) := by rw [evR]; unfold extV; cases xv G ρ x <;> rfl
@[push_cast] theorem evR_len : evR G (.len x) ρ h = (alen (xv G ρ x)).map fun (n : Nat) => AV.int .i64 (n : Int) := by rw [evR]
@[push_cast] theorem evR_lens : evR G (.lens x) ρ h = lensV (xv G ρ x) := by rw [evR]; unfold lensV; cases xv G ρ x <;> rfl
@[push_cast] theorem evR_mm : evR G (.mm neg x y) ρ h = mmV neg (xv G ρ x) (xv G ρ y) := by rw [evR]; unfold mmV; cases xv G ρ x <;> cases xv G ρ y <;> rfl
@[push_cast] theorem evR_bld : evR G (.bld cells parts) ρ h = (afill (xv G ρ) cells parts).map .agg := by rw [evR]
@[push_cast] theorem evR_mkf : evR G (.mkf n xs ys) ρ h = some (.fn n (xs.map (xv G ρ)) (ys.map (xv G ρ))) := by rw [evR]
def slsV (G : Glo) (ρ : Env) (sz : Nat) (lo hi : Option Operand) (v : AV) : Option AV := match alen v with
 | some n => match abound (xv G ρ) n n hi with
  | some hh => match abound (xv G ρ) 0 hh lo with
   | some l => aslice sz l hh v
   | none => none
  | none => none
 | none => none
def slaV (G : Glo) (ρ : Env) (n sz : Nat) (lo hi : Option Operand) (v : AV) : Option AV := match abound (xv G ρ) n n hi with
 | some hh => match abound (xv G ρ) 0 hh lo with
  | some l => match v with
   | .ptr b o => some (.sl b (o + l * sz) (hh - l) (n - l))
   | .cp cells o => some (.ro ((cells.drop (o + l * sz)).take ((hh - l) * sz)) (hh - l))
   | _ => none
  | none => none
 | none => none
def slbV (G : Glo) (ρ : Env) (lo hi : Option Operand) (v : AV) : Option AV := match v with
 | .str s => match abound (xv G ρ) s.size s.size hi with
  | some hh => match abound (xv G ρ) 0 hh lo with
   | some l => some (.str (s.extract l hh))
   | none => none
  | none => none
 | _ => none
@[push_cast] theorem evR_sls : evR G (.sls sz x lo hi) ρ h = slsV G ρ sz lo hi (xv G ρ x) := by rw [evR]; unfold slsV; rfl
@[push_cast] theorem evR_sla : evR G (.sla n sz x lo hi) ρ h = slaV G ρ n sz lo hi (xv G ρ x) := by rw [evR]; unfold slaV; rfl
@[push_cast] theorem evR_sls3 : evR G (.sls3 sz x lo y z) ρ h = (acap (xv G ρ x)).bind fun c => (abound (xv G ρ) 0 c (some z)).bind fun mm => (abound (xv G ρ) 0 mm (some y)).bind fun hh => (abound (xv G ρ) 0 hh lo).bind fun l => aslice3 sz l hh mm (xv G ρ x) := by
 rw [evR]
 cases acap (xv G ρ x) with
 | none => rfl
 | some c =>
  simp only [Option.bind_some]
  cases abound (xv G ρ) 0 c (some z) with
  | none => rfl
  | some mm =>
   simp only [Option.bind_some]
   cases abound (xv G ρ) 0 mm (some y) with
   | none => rfl
   | some hh =>
    simp only [Option.bind_some]
    cases abound (xv G ρ) 0 hh lo <;> rfl
@[push_cast] theorem evR_slb : evR G (.slb x lo hi) ρ h = slbV G ρ lo hi (xv G ρ x) := by rw [evR]; unfold slbV; cases xv G ρ x <;> rfl
@[push_cast] theorem slsV_eq (v : AV) : slsV G ρ sz lo hi v = (alen v).bind fun n => (abound (xv G ρ) n n hi).bind fun hh => (abound (xv G ρ) 0 hh lo).bind fun l => aslice sz l hh v := by
 unfold slsV
 cases alen v with
 | none => rfl
 | some n =>
  simp only [Option.bind_some]
  cases abound (xv G ρ) n n hi with
  | none => rfl
  | some hh =>
   simp only [Option.bind_some]
   cases abound (xv G ρ) 0 hh lo <;> rfl
def slaW (n sz l hh : Nat) (v : AV) : Option AV := match v with
 | .ptr b o => some (.sl b (o + l * sz) (hh - l) (n - l))
 | .cp cells o => some (.ro ((cells.drop (o + l * sz)).take ((hh - l) * sz)) (hh - l))
 | _ => none
@[push_cast] theorem slaW_ptr (b o l hh : Nat) : slaW n sz l hh (.ptr b o) = some (.sl b (o + l * sz) (hh - l) (n - l)) := rfl
@[push_cast] theorem slaW_cp (o l hh : Nat) : slaW n sz l hh (.cp cells o) = some (.ro ((cells.drop (o + l * sz)).take ((hh - l) * sz)) (hh - l)) := rfl
@[push_cast] theorem slaV_eq (v : AV) : slaV G ρ n sz lo hi v = (abound (xv G ρ) n n hi).bind fun hh => (abound (xv G ρ) 0 hh lo).bind fun l => slaW n sz l hh v := by
 unfold slaV
 cases abound (xv G ρ) n n hi with
 | none => rfl
 | some hh =>
  simp only [Option.bind_some]
  cases abound (xv G ρ) 0 hh lo with
  | none => rfl
  | some l => cases v <;> rfl
@[push_cast] theorem slbV_str (s : ByteArray) : slbV G ρ lo hi (.str s) = (abound (xv G ρ) s.size s.size hi).bind fun hh => (abound (xv G ρ) 0 hh lo).bind fun l => some (.str (s.extract l hh)) := by
 unfold slbV
 dsimp only
 cases abound (xv G ρ) s.size s.size hi with
 | none => rfl
 | some hh =>
  simp only [Option.bind_some]
  cases abound (xv G ρ) 0 hh lo <;> rfl
@[push_cast] theorem bind_ite {α β : Type} {c : Prop} [Decidable c] {a : α} {f : α → Option β} : (if c then some a else none).bind f = if c then f a else none := by split <;> rfl
@[push_cast] theorem ite_nest {α : Type} {c d : Prop} [Decidable c] [Decidable d] {a : α} : (if c then (if d then some a else none) else none) = if c ∧ d then some a else none := by
 by_cases hc : c <;> by_cases hd : d <;> simp [hc, hd]
theorem splice_ne {cells cs : List AV} {o : Nat} (h : cs.length ≠ 1) : splice cells o cs = cells.take o ++ cs ++ cells.drop (o + cs.length) := by
 match cs, h with
 | [], h => simp [splice]
 | v :: w :: r, h => rfl
theorem partOf_all {cells : List AV} {n : Nat} (h : cells.length = n) : partOf cells 0 (some n) = some (.agg cells) := by
 subst h; simp [partOf_some]
theorem splice_all' {cells cs : List AV} (h : cs.length = cells.length) : splice cells 0 cs = cs := by
 match cs, h with
 | [], h => simp [splice]; exact List.eq_nil_of_length_eq_zero h.symm
 | [v], h =>
  match cells, h with
  | [c], _ => rfl
 | v :: w :: r, h => simp only [List.length_cons] at h; simp [splice, h]
@[push_cast] theorem pickV_b : pickV (.bool t) a b = some (bif t then a else b) := rfl
@[push_cast] theorem convV_i : convV k (.int k' j) = some (.int k (k.wrap j)) := rfl
@[push_cast] theorem bstrV_sl : bstrV h (.sl n m off sz) = match addedBy h 1 (.sl n m off sz) with
  | some (_, cells) => (intsOf cells).map fun ns => .str (strOf ns)
  | none => none := rfl
@[push_cast] theorem bstrV_ro : bstrV h (.ro cells n) = match addedBy h 1 (.ro cells n) with
  | some (_, cells) => (intsOf cells).map fun ns => .str (strOf ns)
  | none => none := rfl
@[push_cast] theorem bstrV_nils : bstrV h .nils = some (.str (strOf [])) := rfl
@[push_cast] theorem fadV_ptr : fadV off (.ptr n m) = some (.ptr n (m + off)) := rfl
@[push_cast] theorem fadV_cp : fadV off (.cp cells m) = some (.cp cells (m + off)) := rfl
@[push_cast] theorem fldV_agg : fldV off on (.agg cells) = partOf cells off on := rfl
@[push_cast] theorem ixsV_sl : ixsV sz (.sl n m off i) (.int k j) = if 0 ≤ j ∧ j < (off : Int) then some (.ptr n (m + j.toNat * sz)) else none := rfl
@[push_cast] theorem ixsV_ro : ixsV sz (.ro cells n) (.int k j) = if 0 ≤ j ∧ j < (n : Int) then some (.cp cells (j.toNat * sz)) else none := rfl
@[push_cast] theorem ixsV_nils : ixsV sz .nils (.int k j) = none := rfl
@[push_cast] theorem ixaV_ptr : ixaV n sz (.ptr m off) (.int k j) = if 0 ≤ j ∧ j < (n : Int) then some (.ptr m (off + j.toNat * sz)) else none := rfl
@[push_cast] theorem ixaV_cp : ixaV n sz (.cp cells off) (.int k j) = if 0 ≤ j ∧ j < (n : Int) then some (.cp cells (off + j.toNat * sz)) else none := rfl
@[push_cast] theorem ixvV_agg : ixvV n sz on (.agg cells) (.int k j) = if 0 ≤ j ∧ j < (n : Int) then partOf cells (j.toNat * sz) on else none := rfl
@[push_cast] theorem ixbV_str : ixbV (.str s) (.int k j) = if 0 ≤ j ∧ j < (s.size : Int) then some (.int .u8 (s.data.toList[j.toNat]?.getD 0).toNat) else none := rfl
@[push_cast] theorem nckV_ptr : nckV (.ptr n m) = some (.ptr n m) := rfl
@[push_cast] theorem nckV_cp : nckV (.cp cells n) = some (.cp cells n) := rfl
@[push_cast] theorem extV_tup : extV i (.tup cells) = cells[i]? := rfl
@[push_cast] theorem lensV_str : lensV (.str s) = some (.int .i64 s.size) := rfl
@[push_cast] theorem mmV_int (l : Int) : mmV t (.int k j) (.int k' l) = some (.int k (bif t then (if l > j then l else j) else (if l < j then l else j))) := rfl
@[push_cast] theorem lk_nil (q : Nat) : lk [] q = .any := rfl
@[push_cast 1100] theorem lk_self (p : Nat) (v : AV) (r : Env) : lk ((p, v) :: r) p = v := by simp [lk]
@[push_cast] theorem lk_cons (q p : Nat) (v : AV) (r : Env) : lk ((p, v) :: r) q = bif q == p then v else lk r q := rfl
@[push_cast] theorem xv_tmp (q : Nat) : xv G ρ (.tmp q) = lk ρ q := rfl
@[push_cast] theorem xv_const (v : Value) : xv G ρ (.const v) = ofV v := rfl
@[push_cast] theorem xv_global (q : Nat) : xv G ρ (.global q) = G q := rfl
@[push_cast] theorem xv_func (q : Nat) : xv G ρ (.func q) = .fn q [] [] := rfl
@[push_cast] theorem ald_ptr (v w : Nat) : ald h on (.ptr v w) = match h v with
  | some x => partOf x.cells w on
  | none => none := rfl
@[push_cast] theorem ald_cp (w : Nat) : ald h on (.cp cells w) = partOf cells w on := rfl
end
attribute [push_cast] splice_all' partOf_all Vector.length_toList
attribute [push_cast] ofV ofV1 Ab.put thn keep blk retQ resOf rvOf argEnv abeq peq aun abound afill partOf_none stb pend
 List.zipIdx_cons List.zipIdx_nil List.map_cons List.map_nil List.mapM_cons List.mapM_nil cond_true cond_false beq_self_eq_true Option.map_some Option.map_none Option.bind_eq_bind Option.bind_some Option.pure_def
 if_true if_false true_and and_true Int.natCast_nonneg Int.ofNat_lt Int.toNat_natCast Nat.zero_add Nat.add_zero ne_eq not_true_eq_false not_false_eq_true forall_const false_implies true_implies Nat.zero_mul Nat.mul_one Nat.one_mul Nat.mul_zero Nat.sub_zero List.getElem?_cons_zero List.getElem?_cons_succ
 List.take_succ_cons List.take_zero List.drop_succ_cons List.drop_zero List.nil_append List.cons_append List.append_nil List.drop_nil List.take_nil List.length_cons List.length_nil List.set_cons_zero List.set_cons_succ forall_eq
end Go.Ab
end
section
namespace Go.Ab
def Sub (h h' : Heap) : Prop := ∀ b x, h b = some x → h' b = some x
theorem Sub.refl (h : Heap) : Sub h h := fun _ _ e => e
theorem Sub.trans {a b c : Heap} (h : Sub a b) (h' : Sub b c) : Sub a c := fun x y e => h' x y (h x y e)
theorem upd_same (h : Heap) (b : Nat) (x : Blk) : upd h b x b = some x := by simp [upd]
theorem upd_ne {h : Heap} {b c : Nat} {x : Blk} (hne : c ≠ b) : upd h b x c = h c := by simp [upd, hne]
theorem upd_upd (h : Heap) (b : Nat) (x y : Blk) : upd (upd h b x) b y = upd h b y := by funext c; simp only [upd]; split <;> rfl
theorem upd_comm {h : Heap} {b c : Nat} {x y : Blk} (hne : b ≠ c) : upd (upd h b x) c y = upd (upd h c y) b x := by
 funext d
 simp only [upd]
 by_cases e1 : d = c
 ·subst e1; simp [Ne.symm hne]
 ·by_cases e2 : d = b
  ·subst e2; simp [e1]
  ·simp [e1, e2]
theorem Sub.alloc {h h1 : Heap} {b : Nat} {x : Blk} (hs : Sub h h1) (hb : h1 b = none) : Sub h (upd h1 b x) := by
 intro c y e
 have hne : c ≠ b := by rintro rfl; have := hs _ _ e; rw [hb] at this; cases this
 rw [upd_ne hne]; exact hs c y e
theorem Sub.set {h h1 : Heap} {b : Nat} {x : Blk} (hs : Sub h h1) (hb : h b = none) : Sub h (upd h1 b x) := by
 intro c y e
 have hne : c ≠ b := by rintro rfl; rw [hb] at e; cases e
 rw [upd_ne hne]; exact hs c y e
theorem Sub.upd {h h1 : Heap} {b : Nat} {x : Blk} (hs : Sub h h1) : Sub (upd h b x) (upd h1 b x) := by
 intro c y e
 by_cases hc : c = b
 ·subst hc; rw [upd_same] at e ⊢; exact e
 ·rw [upd_ne hc] at e ⊢; exact hs c y e
theorem Sub.none {h h1 : Heap} {b : Nat} (hs : Sub h h1) (hb : h1 b = none) : h b = none := by
 cases e : h b with
 | none => rfl
 | some x => rw [hs b x e] at hb; cases hb
theorem ne_of {h : Heap} {b c : Nat} {x : Blk} (hb : h b = none) (hc : h c = some x) : b ≠ c := by rintro rfl; rw [hb] at hc; cases hc
theorem upd_none {h : Heap} {b c : Nat} {x : Blk} (hc : upd h b x c = none) : c ≠ b ∧ h c = none := by
 unfold upd at hc
 split at hc
 ·cases hc
 ·rename_i e; exact ⟨e, hc⟩
section
variable {P : Program} {G : Glo}
theorem Spec.drop {f : FuncId} {args : List AV} {h : Heap} {Q : AV → Heap → Prop} (hs : Spec P G f args h (fun r h' => ∃ h1, Sub h1 h' ∧ Q r h1)) : Spec P G f args h Q :=
 fun w vs h1 h2 h3 => (hs w vs h1 h2 h3).mono fun _ w' ⟨v, r, h', a, ⟨k, hk, q⟩, c, d, e⟩ => by
  obtain ⟨x, y⟩ := hrep_less c hk
  exact ⟨v, r, k, a, q, x, d.keep y.keeps, e.trans y⟩
def ArgLe (h : Heap) (a a' : AV) : Prop := ∀ (w : World) (v : Value), HRep w h → Rep w h.dom a v → Rep w h.dom a' v
theorem ArgLe.refl (h : Heap) (a : AV) : ArgLe h a a := fun _ _ _ r => r
theorem ArgLe.nils (h : Heap) : ArgLe h .nils (.ro [] 0) := fun _ _ _ r => by rw [rep_nils r]; exact .roe none 0
inductive ArgsLe (h : Heap) : List AV → List AV → Prop
 | nil : ArgsLe h [] []
 | cons {a a' : AV} {l l' : List AV} (ha : ArgLe h a a') (hl : ArgsLe h l l') : ArgsLe h (a :: l) (a' :: l')
theorem ArgsLe.rep {h : Heap} {l l' : List AV} (hl : ArgsLe h l l') {w : World} (hw : HRep w h) {vs : List Value} (hr : RepL w h.dom l vs) : RepL w h.dom l' vs := by
 induction hl generalizing vs with
 | nil => exact hr
 | cons ha _ ih =>
  cases vs with
  | nil => have := hr.1; simp at this
  | cons v s => exact .cons (ha w v hw (hr.2 0 _ v rfl rfl)) (ih ⟨by simpa using hr.1, fun i a b h1 h2 => hr.2 (i + 1) a b (by simpa using h1) (by simpa using h2)⟩)
theorem Spec.args {f : FuncId} {args args' : List AV} {h : Heap} {Q : AV → Heap → Prop} (hs : Spec P G f args' h Q) (hl : ArgsLe h args args') : Spec P G f args h Q :=
 fun w vs h1 h2 h3 => hs w vs h1 h2 (hl.rep h1 h3)
def flatV : AV → Bool
 | .int _ _ | .bool _ | .str _ | .nilp | .nils | .nilf | .any | .ptr _ _ | .sl _ _ _ _ => true
 | .ro cells n => cells.isEmpty && n == 0
 | .tup vs => vs.all fun | .int _ _ | .bool _ | .str _ | .nilp | .nils | .nilf | .any | .ptr _ _ | .sl _ _ _ _ => true | .ro cells n => cells.isEmpty && n == 0 | _ => false
 | _ => false
theorem rep_flat1 {w : World} {O O' : Nat → Prop} {a : AV} {v : Value} (hf : flatV a = true) (hr : Rep w O a v) : Rep w O' a v := by
 have one : ∀ {a : AV} {v : Value}, (match a with | .int _ _ | .bool _ | .str _ | .nilp | .nils | .nilf | .any | .ptr _ _ | .sl _ _ _ _ => true | .ro cells n => cells.isEmpty && n == 0 | _ => false) = true → Rep w O a v → Rep w O' a v := by
  intro a v hf hr
  cases hr with
  | any v => exact .any v
  | int k n => exact .int k n
  | bool b => exact .bool b
  | str s => exact .str s
  | nilp => exact .nilp
  | ptr b o hk => exact .ptr b o hk
  | nils => exact .nils
  | sl b o l c hlc hk => exact .sl b o l c hlc hk
  | sl0 b o a => exact .sl0 b o a
  | roe a c => exact .roe a c
  | nilf => exact .nilf
  | ro cells len cap b o cs _ _ _ _ _ =>
   simp at hf
   obtain ⟨rfl, rfl⟩ := hf
   exact .roe _ _
  | _ => simp at hf
 cases a with
 | tup vs =>
  obtain ⟨cs, rfl, hl, h1⟩ := rep_tup hr
  refine .tup vs cs hl fun i a c ha hc => one ?_ (h1 i a c ha hc)
  have := List.all_eq_true.1 hf a (List.mem_of_getElem? ha)
  exact this
 | _ => exact one hf hr
theorem rep_noO {w : World} {O : Nat → Prop} {a : AV} {v : Value} (hr : Rep w O a v) : Rep w (fun _ => False) a v :=
 hr.keep ⟨Nat.le_refl _, fun _ _ _ => ⟨fun h => h, rfl⟩, fun _ h => h⟩
def Arg1 (h : Heap) (a a' : AV) : Prop := ∀ (w : World) (v : Value), HRep w h → Rep w h.dom a v → Rep w (fun _ => False) a' v
theorem Arg1.same (h : Heap) (a : AV) : Arg1 h a a := fun _ _ _ r => rep_noO r
theorem Arg1.nils (h : Heap) : Arg1 h .nils (.ro [] 0) := fun _ _ _ r => by rw [rep_nils r]; exact .roe none 0
theorem row_rep {w : World} {h : Heap} (hh : HRep w h) {b o n cap : Nat} {x : Blk} (hb : h b = some x) {cells : List AV} (hc : ∀ (i : Nat) v, cells[i]? = some v → x.cells[o + i]? = some v) (h0 : n = 0 → cells = []) {v : Value}
  (hr : Rep w h.dom (.sl b o n cap) v) {O' : Nat → Prop} (hO : ¬ O' b) (hk : ∀ c, ¬ h.dom c → ¬ O' c) : Rep w O' (.ro cells n) v := by
 obtain ⟨a, rfl, hlc, ha⟩ := rep_sl hr
 by_cases hz : n = 0 ∧ cap = 0
 ·obtain ⟨rfl, rfl⟩ := hz
  rw [h0 rfl]; exact .roe _ _
 have hkc := rep_slC hr hz
 rcases ha with hz' | rfl
 ·exact absurd hz' hz
 ·have hat := hh.at hb hkc
  have hbs : b < w.heap.size := own_lt (hh b x hb)
  refine .ro cells n cap b o (fun i => (w.cell? ⟨b, o + i, none⟩).getD undef) hlc hbs hO (fun i v hv => ?_) (fun i v hv => ?_)
  ·obtain ⟨cv, e1, e2, _⟩ := hat (o + i) v (hc i v hv)
   rw [Nat.zero_add] at e1
   rw [e1]; exact ⟨rfl, e2⟩
  ·obtain ⟨cv, e1, _, e3⟩ := hat (o + i) v (hc i v hv)
   rw [Nat.zero_add] at e1
   rw [e1]
   exact e3.keep ⟨Nat.le_refl _, fun c _ hn => ⟨hk c hn, rfl⟩, fun _ h => h⟩
theorem Arg1.row {h : Heap} {b n cap : Nat} {pre cells : List AV} {sp : Nat} (hb : h b = some ⟨pre ++ cells, sp⟩) (h0 : n = 0 → cells = []) : Arg1 h (.sl b pre.length n cap) (.ro cells n) :=
 fun w v hw hr => row_rep hw hb (fun i v hv => by rw [List.getElem?_append_right (by omega)]; simpa using hv) h0 hr (fun h => h) (fun _ _ h => h)
inductive Args1 (h : Heap) : List AV → List AV → Prop
 | nil : Args1 h [] []
 | cons {a a' : AV} {l l' : List AV} (ha : Arg1 h a a') (hl : Args1 h l l') : Args1 h (a :: l) (a' :: l')
theorem Args1.rep {h : Heap} {l l' : List AV} (hl : Args1 h l l') {w : World} (hw : HRep w h) {vs : List Value} (hr : RepL w h.dom l vs) : RepL w (fun _ => False) l' vs := by
 induction hl generalizing vs with
 | nil => exact ⟨hr.1, fun i a v h => by simp at h⟩
 | cons ha _ ih =>
  cases vs with
  | nil => have := hr.1; simp at this
  | cons v s => exact .cons (ha w v hw (hr.2 0 _ v rfl rfl)) (ih ⟨by simpa using hr.1, fun i a b h1 h2 => hr.2 (i + 1) a b (by simpa using h1) (by simpa using h2)⟩)
def noH : Heap := fun _ => none
theorem noH_dom : noH.dom = fun _ => False := by funext b; simp [Heap.dom, noH]
theorem Spec.borrow {f : FuncId} {args args' : List AV} {h : Heap} {Q Q' : AV → Heap → Prop} (hs : Spec P G f args' noH Q) (ha : Args1 h args args') (hq : ∀ r h1, Q r h1 → flatV r = true ∧ Q' r h) : Spec P G f args h Q' := by
 intro w vs k1 k2 k3
 refine (hs w vs (fun b x hx => by cases hx) ⟨fun g => by rw [noH_dom]; exact rep_noO (k2.1 g), fun x v e => by rw [noH_dom]; exact rep_noO (k2.2 x v e)⟩ (by rw [noH_dom]; exact ha.rep k1 k3)).mono ?_
 rintro e w' ⟨v, r, h1, he, q, _, m2, m3⟩
 obtain ⟨hf, hq'⟩ := hq r h1 q
 have hk : Keeps w h.dom w' h.dom := ⟨m3.size, fun b hb hn => ⟨hn, (m3.blk b hb rfl).2⟩, m3.cel⟩
 refine ⟨v, r, h, he, hq', fun b x hb => ?_, rep_flat1 hf m2, ⟨m3.size, fun b hb hn => ⟨hn, (m3.blk b hb rfl).2⟩, m3.cel, m3.os, m3.tape, m3.out⟩⟩
 exact own_keep (k1 b x hb) (m3.blk b (own_lt (k1 b x hb)) rfl).2 hk
theorem Le.freeze {g : Heap} {b n cap : Nat} {pre cells : List AV} {sp : Nat} (hb : g b = none) (h0 : n = 0 → cells = []) : Le (.sl b pre.length n cap) (upd g b ⟨pre ++ cells, sp⟩) (.ro cells n) g := by
 intro w v hw hr
 have hsub : Sub g (upd g b ⟨pre ++ cells, sp⟩) := (Sub.refl g).alloc hb
 obtain ⟨l1, l2⟩ := hrep_less hw hsub
 refine ⟨l1, ?_, fun c hc => hsub.none hc⟩
 exact row_rep hw (upd_same g b _) (fun i v hv => by rw [List.getElem?_append_right (by omega)]; simpa using hv) h0 hr (fun h => h hb) (fun c hc hn => hc fun e => hn (hsub.none e))
theorem Le.refl (r : AV) (h : Heap) : Le r h r h := fun _ _ hw hr => ⟨hw, hr, fun _ e => e⟩
theorem Le.nils {h : Heap} : Le .nils h (.ro [] 0) h := fun _ _ hw hr => ⟨hw, by rw [rep_nils hr]; exact .roe none 0, fun _ e => e⟩
end
inductive Own (sz : Nat) (g : Heap) : AV → List AV → Nat → Heap → Prop
 | nil : Own sz g .nils [] 0 g
 | row (b n cap : Nat) (pre cells : List AV) (sp : Nat) (hb : g b = none) (hl : cells.length = n * sz) (hc : cap * sz ≤ n * sz + sp) : Own sz g (.sl b pre.length n cap) cells n (upd g b ⟨pre ++ cells, sp⟩)
theorem Own.sub {sz n : Nat} {g h : Heap} {v : AV} {cells : List AV} (ho : Own sz g v cells n h) : Sub g h := by
 cases ho with
 | nil => exact .refl _
 | row b n cap pre cells sp hb hl hc => exact (Sub.refl g).alloc hb
theorem Own.get {sz n : Nat} {g h : Heap} {v : AV} {cells : List AV} (ho : Own sz g v cells n h) {b : Nat} {x : Blk} (hb : g b = some x) : h b = some x := ho.sub b x hb
theorem Own.len {sz n : Nat} {g h : Heap} {v : AV} {cells : List AV} (ho : Own sz g v cells n h) : cells.length = n * sz := by
 cases ho with
 | nil => simp
 | row b n cap pre cells sp hb hl hc => exact hl
theorem Own.alen {sz n : Nat} {g h : Heap} {v : AV} {cells : List AV} (ho : Own sz g v cells n h) : Ab.alen v = some n := by
 cases ho <;> rfl
theorem Own.upd {sz n : Nat} {g h : Heap} {v : AV} {cells : List AV} (ho : Own sz g v cells n h) {b : Nat} {x : Blk} (hb : h b = none ∨ ∃ y, g b = some y) : Own sz (Ab.upd g b x) v cells n (Ab.upd h b x) := by
 cases ho with
 | nil => exact .nil
 | row c n cap pre cells sp hc hl hcap =>
  have hne : c ≠ b := by
   rcases hb with hb | ⟨y, hy⟩
   ·exact fun e => (upd_none hb).1 e.symm
   ·exact ne_of hc hy
  rw [upd_comm hne]
  exact .row c n cap pre cells sp (by rw [upd_ne hne]; exact hc) hl hcap
theorem Own.app {sz bytes n m : Nat} {g h : Heap} {v : AV} {cells cs : List AV} {Q : AV → Heap → Prop} (ho : Own sz g v cells n h) (hcs : cs.length = m * sz) (hb : (n + m) * bytes ≤ 140737488355328) (h63 : n + m ≤ 9223372036854775807)
  (hq : ∀ v' h', Own sz g v' (cells ++ cs) (n + m) h' → Q v' h') : appQ sz bytes m cs v h Q := by
 cases ho with
 | nil =>
  simp only [appQ]
  refine ⟨by simpa using hb, by simpa using h63, fun hm => ?_, fun hm b cap hbn hle => ?_⟩
  ·subst hm
   have : cs = [] := List.eq_nil_of_length_eq_zero (by simpa using hcs)
   subst this
   exact hq _ _ .nil
  ·have := hq (.sl b ([] : List AV).length (0 + m) cap) _ (.row b (0 + m) cap [] ([] ++ cs) ((cap - m) * sz) hbn (by simpa using hcs) (by
    rw [Nat.zero_add, ← Nat.add_mul, Nat.add_sub_cancel' hle]; exact Nat.le_refl _))
   simpa using this
 | row b n cap pre cells sp hbn hl hc =>
  simp only [appQ, upd_same]
  refine ⟨by simp [hl], hc, hb, h63, fun b' pre' cap' sp' hb' hcap => ?_⟩
  have hgb : g b' = none := by
   rcases hb' with rfl | h
   ·exact hbn
   ·exact (upd_none h).2
  have he : Ab.upd (era (Ab.upd g b ⟨pre ++ cells, sp⟩) b) b' ⟨pre' ++ List.drop pre.length (pre ++ cells) ++ cs, sp'⟩ = Ab.upd g b' ⟨pre' ++ (cells ++ cs), sp'⟩ := by
   funext c
   simp only [Ab.upd, era, List.drop_left, List.append_assoc]
   by_cases e1 : c = b'
   ·simp [e1]
   ·by_cases e2 : c = b
    ·simp [e2, hbn]
    ·simp [e1, e2]
  rw [he]
  exact hq _ _ (.row b' (n + m) cap' pre' (cells ++ cs) sp' hgb (by simp [hl, hcs, Nat.add_mul]) hcap)
theorem Own.freeze {sz n : Nat} {g h : Heap} {v : AV} {cells : List AV} (ho : Own sz g v cells n h) : Le v h (.ro cells n) g := by
 cases ho with
 | nil => exact Le.nils
 | row b n cap pre cells sp hb hl hc => exact Le.freeze hb fun e => by subst e; exact List.eq_nil_of_length_eq_zero (by simpa using hl)
theorem Own.drop {sz n : Nat} {g h : Heap} {v : AV} {cells : List AV} {c : Nat} {x : Blk} (ho : Own sz (Ab.upd g c x) v cells n h) (hc : g c = none) : ∃ h1, Sub h1 h ∧ Own sz g v cells n h1 := by
 cases ho with
 | nil => exact ⟨g, (Sub.refl g).alloc hc, .nil⟩
 | row b n cap pre cells sp hb hl hcap => exact ⟨_, ((Sub.refl g).alloc hc).upd, .row b n cap pre cells sp (upd_none hb).2 hl hcap⟩
theorem Own.one {sz n : Nat} {g h : Heap} {v : AV} {cells : List AV} (ho : Own sz g v cells n h) : cellsOf v = some [v] := by
 cases ho <;> rfl
attribute [push_cast] upd_same upd_upd
end Go.Ab
end
section
namespace Go.Ab
def gvv (t : Bool) (v : AV) : AV := bif t then v else .tup []
def flush (e : Bool) (acc ρ : Env) : Env := acc.map (fun x => (x.1, gvv e x.2)) ++ ρ
inductive Md where
 | u
 | g (s : Nat) (w e : Bool) (acc : Env)
def gval (v : AV) (w : Bool) : Option Bool := match v with
 | .bool b => some (b == w)
 | .tup _ => some false
 | _ => none
def setg (v : AV) (w : Bool) : AV := match v with
 | .bool _ => .bool (!w)
 | v => v
def tot : RK → Bool
 | .ixs _ _ _ | .ixa _ _ _ _ | .ixv _ _ _ _ _ | .ixb _ _ | .sls _ _ _ _ | .sla _ _ _ _ _ | .slb _ _ _ | .sls3 _ _ _ _ _ | .lkp _ _ _ _ _ => false
 | _ => true
def bindG (e : Bool) (o : Option AV) (K : AV → Prop) : Prop := (e = true → o.isSome = true) ∧ K (o.getD .any)
section
variable (P : Program) (G : Glo)
def rdK (K : Md → Env → Heap → Prop) (d : Option Nat) (ρ : Env) (h : Heap) (v : AV) : Prop := K .u (put d v ρ) h
def reK (K : Md → Env → Heap → Prop) (d : Option Nat) (ρ : Env) (v : AV) (h : Heap) : Prop := K .u (put d v ρ) h
def opq (o : AOp) (ρ : Env) (h : Heap) (K : Md → Env → Heap → Prop) : Prop := match o.k with
 | .r r => bindO (evR G r ρ h) (rdK K o.d ρ h)
 | .e e => stE P G e ρ h (reK K o.d ρ)
def rgK (K : Md → Env → Heap → Prop) (d : Option Nat) (s : Nat) (w e : Bool) (acc ρ : Env) (h : Heap) (v : AV) : Prop := K (.g s w e (put d v acc)) ρ h
def frk (e : Bool) (yes no : Unit → Prop) : Prop := (e = true → yes ()) ∧ (e = false → no ())
def fyR (o : AOp) (s : Nat) (w : Bool) (acc ρ : Env) (h : Heap) (K : Md → Env → Heap → Prop) (_ : Unit) : Prop := opq P G ⟨o.d, none, o.k⟩ (put s (.bool w) (acc ++ ρ)) h K
def fno (o : AOp) (s : Nat) (w : Bool) (acc ρ : Env) (h : Heap) (K : Md → Env → Heap → Prop) (_ : Unit) : Prop := K .u (put o.d (.tup []) (put s (setg (lk (flush false acc ρ) s) w) (flush false acc ρ))) h
def stepG (s : Nat) (w e : Bool) (acc : Env) (o : AOp) (ρ : Env) (h : Heap) (K : Md → Env → Heap → Prop) : Prop := match o.k with
 | .r r => if tot r = true ∧ o.d ≠ some s then bindG e (evR G r (acc ++ ρ) h) (rgK K o.d s w e acc ρ h) else frk e (fyR P G o s w acc ρ h K) (fno o s w acc ρ h K)
 | .e _ => frk e (fyR P G o s w acc ρ h K) (fno o s w acc ρ h K)
def sgK (o : AOp) (s : Nat) (w : Bool) (ρ : Env) (h : Heap) (K : Md → Env → Heap → Prop) (e : Bool) : Prop := stepG P G s w e [] o ρ h K
def stepU (o : AOp) (ρ : Env) (h : Heap) (K : Md → Env → Heap → Prop) : Prop := match o.g with
 | none => opq P G o ρ h K
 | some (s, w) => bindO (gval (lk ρ s) w) (sgK P G o s w ρ h K)
def uyes (o : AOp) (s : Nat) (w : Bool) (acc ρ : Env) (h : Heap) (K : Md → Env → Heap → Prop) (_ : Unit) : Prop := stepU P G o (put s (.bool w) (acc ++ ρ)) h K
def uno (o : AOp) (s : Nat) (w : Bool) (acc ρ : Env) (h : Heap) (K : Md → Env → Heap → Prop) (_ : Unit) : Prop := stepU P G o (put s (setg (lk (flush false acc ρ) s) w) (flush false acc ρ)) h K
def stepM (m : Md) (o : AOp) (ρ : Env) (h : Heap) (K : Md → Env → Heap → Prop) : Prop := match m with
 | .u => stepU P G o ρ h K
 | .g s w e acc => match o.g with
  | none => stepU P G o (flush e acc ρ) h K
  | some (s', w') => if s' = s ∧ w' = w then stepG P G s w e acc o ρ h K
   else if acc.any (fun x => x.1 == s') = true then frk e (uyes P G o s w acc ρ h K) (uno P G o s w acc ρ h K)
   else stepU P G o (flush e acc ρ) h K
def fls : Md → Env → Env
 | .u, ρ => ρ
 | .g _ _ e acc, ρ => flush e acc ρ
def rwq (Q : Env → Heap → Prop) : List AOp → Md → Env → Heap → Prop
 | [], m, ρ, h => Q (fls m ρ) h
 | o :: rest, m, ρ, h => stepM P G m o ρ h (rwq Q rest)
end
section sound
variable {P : Program} {G : Glo} {w0 : W0} {h0 : Heap} {N : Nat}
theorem gvv_true (v : AV) : gvv true v = v := rfl
theorem flush_true (acc ρ : Env) : flush true acc ρ = acc ++ ρ := by simp [flush, gvv_true]
theorem flush_put (e : Bool) (d : Option Nat) (v : AV) (acc ρ : Env) : flush e (put d v acc) ρ = put d (gvv e v) (flush e acc ρ) := by
 cases d <;> simp [flush, put]
theorem gd_gval {s : Nat} {w e : Bool} {ρ : Env} {yes no : Prop} (h : gval (lk ρ s) w = some e) (hk : (e = true → yes) ∧ (e = false → no)) : gd (some (s, w)) ρ yes no := by
 unfold gd
 unfold gval at h
 dsimp only
 split at h <;> simp only [Option.some.injEq, reduceCtorEq] at h <;> subst h
 ·rename_i b hb
  rw [hb]
  exact ⟨fun e => hk.1 (by simp [e]), fun e => hk.2 (by simpa using e)⟩
 ·rename_i l hl
  rw [hl]
  exact hk.2 rfl
theorem lk_put_self {s : Nat} {v : AV} {ρ : Env} (h : lk ρ s = v) (i : Nat) : lk (put (some s) v ρ) i = lk ρ i := by
 rw [lk_put]
 split
 ·rename_i e; cases e; exact h.symm
 ·rfl
theorem Sim.cong {ρ ρ1 : Env} {h : Heap} {a : Act} {w : World} (hs : Sim G w0 h0 N ρ h a w) (hl : ∀ i, lk ρ1 i = lk ρ i) : Sim G w0 h0 N ρ1 h a w := hs.less fun i => .inl (hl i)
theorem gval_yes {s : Nat} {w : Bool} {ρ : Env} (h : gval (lk ρ s) w = some true) : lk ρ s = .bool w := by
 unfold gval at h
 split at h
 ·rename_i b hb
  simp only [Option.some.injEq] at h
  rw [hb, eq_of_beq h]
 ·cases h
 ·cases h
theorem gval_no {s : Nat} {w : Bool} {ρ : Env} (h : gval (lk ρ s) w = some false) : lk ρ s = setg (lk ρ s) w := by
 unfold gval at h
 split at h
 ·rename_i b hb
  simp only [Option.some.injEq] at h
  rw [hb]
  simp only [setg]
  cases b <;> cases w <;> first | rfl | cases h
 ·rename_i l hl; rw [hl]; rfl
 ·cases h
def SimM (G : Glo) (w0 : W0) (h0 : Heap) (N : Nat) (m : Md) (ρ : Env) (h : Heap) (a : Act) (w : World) : Prop :=
 Sim G w0 h0 N (fls m ρ) h a w ∧ match m with
  | .u => True
  | .g s t e acc => gval (lk (flush e acc ρ) s) t = some e
variable {ro : Option Nat} {ops : Array Oper} {o : Oper} {ao : AOp} {R : Exit → Act → World → Prop} {next : Act → World → Prop} {J : Md → Env → Heap → Prop}
def Out (ro : Option Nat) (P : Program) (ops : Array Oper) (o : Oper) (a : Act) (w : World) (next : Act → World → Prop) (R : Exit → Act → World → Prop) : Prop :=
 (Region.wanted o (yielded ops a.tmps) = true ∧ o.wpIn (FR ro) 0 P a w next R) ∨ (Region.wanted o (yielded ops a.tmps) = false ∧ next (a.put o.dst undef) w)
theorem opq_stp {d : Option Nat} {k : K} {g : Option (Nat × Bool)} {ρ : Env} {h : Heap} (hq : opq P G ⟨d, g, k⟩ ρ h J) : stp P G k ρ h fun v h' => J .u (put d v ρ) h' := by
 unfold opq at hq
 unfold stp
 cases k with
 | r r =>
  simp only at hq ⊢
  unfold bindO at hq
  split at hq
  ·rename_i v hv; rw [hv]; exact hq
  ·exact hq.elim
 | e e => exact hq
theorem frk_sound {s : Nat} {t e : Bool} {acc ρ : Env} {h : Heap} {a : Act} {w : World} (ht : trOp P N ops o = some ao.bare) (hg : ao.g = some (s, t)) (hs : Sim G w0 h0 N (flush e acc ρ) h a w) (hv : gval (lk (flush e acc ρ) s) t = some e)
  (hn : ∀ m ρ' h' a' w', J m ρ' h' → SimM G w0 h0 N m ρ' h' a' w' → next a' w')
  (hq : frk e (fyR P G ao s t acc ρ h J) (fno ao s t acc ρ h J)) : Out ro P ops o a w next R := by
 cases e with
 | true =>
  rw [flush_true] at hs hv
  have hl := gval_yes hv
  refine op_sound ht (hs.cong (lk_put_self hl)) (K := J .u) ?_ fun ρ' h' a' w' k s => hn .u ρ' h' a' w' k ⟨s, trivial⟩
  rw [hg]
  refine gd_gval (e := true) (by rw [lk_put_self hl, hl]; simp [gval]) ⟨fun _ => ?_, fun e => by cases e⟩
  exact opq_stp (hq.1 rfl)
 | false =>
  have hl := gval_no hv
  refine op_sound ht (hs.cong (lk_put_self hl)) (K := J .u) ?_ fun ρ' h' a' w' k s => hn .u ρ' h' a' w' k ⟨s, trivial⟩
  rw [hg]
  refine gd_gval (e := false) (by rw [lk_put_self hl]; exact hv) ⟨fun e => (by cases e), fun _ => hq.2 rfl⟩
theorem stepG_sound {s : Nat} {t e : Bool} {acc ρ : Env} {h : Heap} {a : Act} {w : World} (ht : trOp P N ops o = some ao.bare) (hg : ao.g = some (s, t)) (hs : Sim G w0 h0 N (flush e acc ρ) h a w) (hv : gval (lk (flush e acc ρ) s) t = some e)
  (hn : ∀ m ρ' h' a' w', J m ρ' h' → SimM G w0 h0 N m ρ' h' a' w' → next a' w')
  (hq : stepG P G s t e acc ao ρ h J) : Out ro P ops o a w next R := by
 unfold stepG at hq
 split at hq
 ·rename_i r hr
  split at hq
  ·rename_i hc
   obtain ⟨h1, h2⟩ := hq
   generalize hvv : (evR G r (acc ++ ρ) h).getD .any = v at h2
   have hrest : ∀ ρ' h' a' w', (ρ' = flush e (put ao.d v acc) ρ ∧ h' = h) → Sim G w0 h0 N ρ' h' a' w' → next a' w' := by
    rintro ρ' h' a' w' ⟨rfl, rfl⟩ s'
    refine hn _ ρ h' a' w' h2 ⟨s', ?_⟩
    show gval (lk (flush e (put ao.d v acc) ρ) s) t = some e
    rw [flush_put, lk_put, if_neg hc.2]
    exact hv
   refine op_sound ht hs ?_ hrest
   rw [hg]
   refine gd_gval hv ⟨fun e1 => ?_, fun e1 => ⟨by rw [flush_put, e1]; rfl, rfl⟩⟩
   subst e1
   rw [hr]
   simp only [stp]
   rw [flush_true]
   cases hev : evR G r (acc ++ ρ) h with
   | none => rw [hev] at h1; simp at h1
   | some u =>
    rw [hev] at hvv
    simp only [Option.getD_some] at hvv
    subst hvv
    exact ⟨by rw [flush_put, flush_true]; rfl, trivial⟩
  ·exact frk_sound ht hg hs hv hn hq
 ·exact frk_sound ht hg hs hv hn hq
theorem stepU_sound {ρ : Env} {h : Heap} {a : Act} {w : World} (ht : trOp P N ops o = some ao.bare) (hs : Sim G w0 h0 N ρ h a w)
  (hn : ∀ m ρ' h' a' w', J m ρ' h' → SimM G w0 h0 N m ρ' h' a' w' → next a' w') (hq : stepU P G ao ρ h J) : Out ro P ops o a w next R := by
 unfold stepU at hq
 split at hq
 ·rename_i hg
  refine op_sound ht hs (K := J .u) ?_ fun ρ' h' a' w' k s => hn .u ρ' h' a' w' k ⟨s, trivial⟩
  rw [hg]
  exact opq_stp hq
 ·rename_i s t hg
  unfold bindO at hq
  split at hq
  ·rename_i e he
   exact stepG_sound (acc := []) ht hg (by simpa [flush] using hs) (by simpa [flush] using he) hn hq
  ·exact hq.elim
theorem stepM_sound {m : Md} {ρ : Env} {h : Heap} {a : Act} {w : World} (ht : trOp P N ops o = some ao.bare) (hs : SimM G w0 h0 N m ρ h a w)
  (hn : ∀ m ρ' h' a' w', J m ρ' h' → SimM G w0 h0 N m ρ' h' a' w' → next a' w') (hq : stepM P G m ao ρ h J) : Out ro P ops o a w next R := by
 unfold stepM at hq
 split at hq
 ·exact stepU_sound ht hs.1 hn hq
 ·rename_i s t e acc
  obtain ⟨hs, hv⟩ := hs
  simp only [fls] at hs
  change gval (lk (flush e acc ρ) s) t = some e at hv
  split at hq
  ·exact stepU_sound ht hs hn hq
  ·rename_i s' t' hg
   split at hq
   ·rename_i hc
    rw [hc.1, hc.2] at hg
    exact stepG_sound ht hg hs hv hn hq
   ·split at hq
    ·cases e with
     | true =>
      rw [flush_true] at hs hv
      exact stepU_sound ht (hs.cong (lk_put_self (gval_yes hv))) hn (hq.1 rfl)
     | false => exact stepU_sound ht (hs.cong (lk_put_self (gval_no hv))) hn (hq.2 rfl)
    ·exact stepU_sound ht hs hn hq
theorem regq_sound {aops : List AOp} (ht : ops.toList.mapM (trOp P N ops) = some (aops.map AOp.bare)) {Q : Env → Heap → Prop}
  (hR : ∀ ρ h a w, Q ρ h → Sim G w0 h0 N ρ h a w → R .normal a w) :
  ∀ (n k : Nat) (m : Md) (ρ : Env) (h : Heap) (a : Act) (w : World), k + n = ops.size → SimM G w0 h0 N m ρ h a w → rwq P G Q (aops.drop k) m ρ h → wpOpsIn (FR ro) 0 P ops R (List.range' k n) a w := by
 obtain ⟨hl, hg⟩ := mapM_get ht
 intro n
 induction n with
 | zero =>
  intro k m ρ h a w hk hs hq
  have : aops.drop k = [] := List.drop_eq_nil_of_le (by rw [List.length_map] at hl; rw [← hl]; simp; omega)
  rw [this] at hq
  exact hR _ h a w hq hs.1
 | succ n ih =>
  intro k m ρ h a w hk hs hq
  have hlt : k < ops.size := by omega
  obtain ⟨bo, hbo, hto⟩ := hg k ops[k] (by simp [hlt])
  rw [List.getElem?_map] at hbo
  obtain ⟨ao, hao, rfl⟩ := Option.map_eq_some_iff.1 hbo
  have hd : aops.drop k = ao :: aops.drop (k + 1) := by
   have hlt' := (List.getElem?_eq_some_iff.1 hao).1
   rw [List.drop_eq_getElem_cons hlt', (List.getElem?_eq_some_iff.1 hao).2]
  rw [hd] at hq
  simp only [rwq] at hq
  rw [List.range'_succ]
  simp only [wpOpsIn, Array.getElem?_eq_getElem hlt]
  rcases stepM_sound (next := wpOpsIn (FR ro) 0 P ops R (List.range' (k + 1) n)) (R := R) hto hs (fun m' ρ' h' a' w' q s => ih (k + 1) m' ρ' h' a' w' (by omega) s q) hq with ⟨hw, hy⟩ | ⟨hw, hno⟩
  ·rw [if_pos hw]; exact hy
  ·rw [if_neg (by rw [hw]; simp)]; exact ⟨fun _ _ => trivial, hno⟩
theorem Wp.regq {ρ : Env} {h : Heap} {Q : Exit → Env → Heap → Prop} {l : List AOp} (hq : rwq P G (Q .normal) l .u ρ h) : Wp P G N (.reg l) ρ h Q := by
 intro ro c hc w0 h0 a w hs
 obtain ⟨id, ops, rfl, h1⟩ := inv_any hc
 refine wpIn_region ?_
 rw [List.range_eq_range']
 exact regq_sound h1 (R := fun e a' w' => ∃ ρ' h', Q e ρ' h' ∧ Sim G w0 h0 N ρ' h' a' w') (Q := Q .normal) (fun ρ' h' a' w' q s => ⟨ρ', h', q, s⟩) ops.size 0 .u ρ h a w (by omega) ⟨hs, trivial⟩ hq
end sound
def drOk : ACode → Bool
 | .seq _ a b | .cond _ a b => drOk a && drOk b
 | .block _ a | .loop a => drOk a
 | .dreg ops es od => dok ops es od
 | .dregt ops es t => dokT ops es t
 | .fz _ a | .wk _ a | .scp a => drOk a
 | _ => true
section
variable (P : Program) (G : Glo) (N : Nat)
def cndQ (v : AV) (yes no : Unit → Prop) : Prop := match v with
 | .bool b => (b = true → yes ()) ∧ (b = false → no ())
 | _ => False
def lpc (a : ACode) (Q : Exit → Env → Heap → Prop) (ρ : Env) (h : Heap) : Prop := P.follows .mixedOrders = true → drOk a = true → Wp P G N (.loop a) ρ h Q
def wpcU (f : Env → Heap → Prop) (ρ : Env) (h : Heap) (_ : Unit) : Prop := f ρ h
def fzK (s b : Nat) (f : Env → Heap → Prop) (ρ : Env) (h : Heap) (x : Blk) : Prop := f (put (some s) (.cp x.cells 0) ρ) (era h b)
def fzQ (s : Nat) (f : Env → Heap → Prop) (ρ : Env) (h : Heap) (v : AV) : Prop := match v with
 | .ptr b 0 => bindO (h b) (fzK s b f ρ h)
 | _ => False
def wkK (s : Nat) (f : Env → Heap → Prop) (ρ : Env) (v : AV) (h : Heap) : Prop := f (put (some s) v ρ) h
def wkQ (K : AV → Heap → Prop) (v : AV) (h : Heap) : Prop := ∃ v' h', Le v h v' h' ∧ K v' h'
def wpc : ACode → (Exit → Env → Heap → Prop) → Env → Heap → Prop
 | .skip, Q => Q .normal
 | .ret, Q => Q .ret
 | .exit id, Q => Q (.exit id)
 | .seq ks a b, Q => wpc a (thn ks (wpc b Q) Q)
 | .cond c a b, Q => fun ρ h => cndQ (xv G ρ c) (wpcU (wpc a Q) ρ h) (wpcU (wpc b Q) ρ h)
 | .block id a, Q => wpc a (blk id Q)
 | .loop a, Q => lpc P G N a Q
 | .reg ops, Q => rwq P G (Q .normal) ops .u
 | .dreg ops _ od, Q => fun ρ h => dwp P G ops od ρ h (Q .normal)
 | .dregt ops _ t, Q => fun ρ h => dwpT P G ops (Q .normal) t ρ h
 | .fz s a, Q => fun ρ h => fzQ s (wpc a Q) ρ h (lk ρ s)
 | .wk s a, Q => fun ρ h => wkQ (wkK s (wpc a Q) ρ) (lk ρ s) h
 | .scp a, Q => wpc a (scQ Q)
 | .lab, Q => Q .normal
end
section
variable {P : Program} {G : Glo} {N : Nat}
theorem Sim.fz {w0 : W0} {h0 h : Heap} {ρ : Env} {s b : Nat} {x : Blk} {a : Act} {w : World} (hs : Sim G w0 h0 N ρ h a w) (hp : lk ρ s = .ptr b 0) (hb : h b = some x) :
  Sim G w0 h0 N (put (some s) (.cp x.cells 0) ρ) (era h b) a w := by
 have hu : upd (era h b) b x = h := by
  funext c
  simp only [upd, era]
  split
  ·rename_i e; rw [e, hb]
  ·rfl
 have hsub : ∀ c y, era h b c = some y → h c = some y := by
  intro c y e
  simp only [era] at e
  split at e
  ·cases e
  ·exact e
 have hs' := hs.forget hsub
 refine ⟨hs'.nd, hs'.sz, fun i => ?_, hs'.heap, hs'.glo, hs'.fr⟩
 have h1 := hs'.env i
 have h2 := hs.env i
 rw [lk_put]
 split
 ·rename_i e
  cases e
  rw [hp] at h2
  have hkc := rep_ptrC h2
  rw [rep_ptr h2]
  obtain ⟨_, _, l3, l4⟩ := hrep_new (h := era h b) (b := b) (x := x) (by simp [era]) (by rw [hu]; exact hs.heap)
  have l4 := l4 hkc
  exact .cp x.cells 0 b 0 (fun i => (w.cell? ⟨b, i, none⟩).getD undef) l3 (fun hd => hd (by simp [era])) (fun i v hv => by
   obtain ⟨cv, e1, e2, _⟩ := l4 i v hv
   rw [Nat.zero_add, e1]; exact ⟨rfl, e2⟩) (fun i v hv => by
   obtain ⟨cv, e1, _, e3⟩ := l4 i v hv
   rw [e1]; exact e3)
 ·exact h1
theorem Sim.wk {w0 : W0} {h0 h h' : Heap} {ρ : Env} {s : Nat} {v : AV} {a : Act} {w : World} (hs : Sim G w0 h0 N ρ h a w) (hl : Le (lk ρ s) h v h') : Sim G w0 h0 N (put (some s) v ρ) h' a w := by
 obtain ⟨x, y, z⟩ := hl w _ hs.heap (hs.env s)
 have hk : Keeps w h.dom w h'.dom := ⟨Nat.le_refl _, fun b _ hn => ⟨fun hd => hd (z b (Classical.not_not.1 hn)), rfl⟩, fun _ h => h⟩
 refine ⟨hs.nd, hs.sz, fun i => ?_, x, hs.glo.keep hk, hs.fr.less z⟩
 rw [lk_put]
 split
 ·rename_i e; cases e; exact y
 ·exact (hs.env i).keep hk
theorem wkQ.own {sz n : Nat} {g h : Heap} {v : AV} {cells : List AV} {K : AV → Heap → Prop} (ho : Own sz g v cells n h) (hq : K (.ro cells n) g) : wkQ K v h := ⟨_, _, ho.freeze, hq⟩
theorem wkQ.same {h : Heap} {v : AV} {K : AV → Heap → Prop} (hq : K v h) : wkQ K v h := ⟨_, _, Le.refl v h, hq⟩
theorem Wp.of_wpc (hm : P.follows .mixedOrders = true) : ∀ (ac : ACode), drOk ac = true → ∀ (Q : Exit → Env → Heap → Prop) (ρ : Env) (h : Heap), wpc P G N ac Q ρ h → Wp P G N ac ρ h Q := by
 intro ac
 induction ac with
 | skip => intro _ Q ρ h hq; exact .skip hq
 | ret => intro _ Q ρ h hq; exact .ret hq
 | exit id => intro _ Q ρ h hq; exact .exit hq
 | seq ks a b iha ihb =>
  intro hd Q ρ h hq
  simp only [drOk, Bool.and_eq_true] at hd
  refine .seq ((iha hd.1 _ ρ h hq).mono ?_)
  intro e ρ' h' he
  cases e <;> simp only [thn] at he ⊢
  ·exact ihb hd.2 Q _ _ he
  all_goals exact he
 | cond c a b iha ihb =>
  intro hd Q ρ h hq
  simp only [drOk, Bool.and_eq_true] at hd
  simp only [wpc] at hq
  unfold cndQ at hq
  split at hq
  ·rename_i t hx
   exact .cond hx (fun e => iha hd.1 Q ρ h (hq.1 e)) (fun e => ihb hd.2 Q ρ h (hq.2 e))
  ·exact hq.elim
 | block id a ih => intro hd Q ρ h hq; exact .block (ih hd _ ρ h hq)
 | loop a ih => intro hd Q ρ h hq; exact hq hm hd
 | scp a ih => intro hd Q ρ h hq; exact .scp (ih hd _ ρ h hq)
 | lab => intro _ Q ρ h hq; exact .lab hq
 | reg ops => intro _ Q ρ h hq; exact .regq hq
 | dreg ops es od => intro hd Q ρ h hq; exact .dreg hm hd hq
 | dregt ops es t => intro hd Q ρ h hq; exact .dregt hm hd hq
 | wk s a ih =>
  intro hd Q ρ h hq
  obtain ⟨v', h', hl, hq⟩ := hq
  have := ih hd Q _ _ hq
  intro ro c hc w0 h0 a w hs
  exact this ro c hc w0 h0 a w (hs.wk hl)
 | fz s a ih =>
  intro hd Q ρ h hq
  simp only [wpc] at hq
  unfold fzQ at hq
  split at hq
  ·rename_i b hv
   unfold bindO at hq
   split at hq
   ·rename_i x hb
    have := ih hd Q _ _ hq
    intro ro c hc w0 h0 a w hs
    exact this ro c hc w0 h0 a w (hs.fz hv hb)
   ·exact hq.elim
  ·exact hq.elim
def lpN (ks : List Nat) (R : Nat → Env → Heap → Prop) (n : Nat) (ρ : Env) (h : Heap) : Prop := ∃ n' h1, n' < n ∧ Sub h1 h ∧ R n' (keep ks ρ) h1
def lpQ (ks : List Nat) (R : Nat → Env → Heap → Prop) (n : Nat) (Q : Exit → Env → Heap → Prop) : Exit → Env → Heap → Prop
 | .normal => lpN ks R n
 | .exit id => Q (.exit id)
 | .goto l => Q (.goto l)
 | .ret => Q .ret
 | .panic c => Q (.panic c)
 | .outgrown => Q .outgrown
theorem lpc.rel {a : ACode} {Q : Exit → Env → Heap → Prop} {ρ : Env} {h : Heap} (ks : List Nat) (R : Nat → Env → Heap → Prop) (h0 : ∃ n, R n (keep ks ρ) h)
  (step : ∀ n ρ h, R n ρ h → wpc P G N a (lpQ ks R n Q) ρ h) : lpc P G N a Q ρ h := by
 intro hm hd
 obtain ⟨n, hR⟩ := h0
 have key : ∀ n m, m < n → ∀ ρ h, R m ρ h → Lp P G N a Q n ρ h := by
  intro n
  induction n with
  | zero => intro m hm; omega
  | succ n ih =>
   intro m hmn ρ h hR
   refine Lp.succ ks ((Wp.of_wpc hm a hd _ ρ h (step m ρ h hR)).mono ?_)
   intro e ρ' h' he
   cases e <;> simp only [lpQ, thn] at he ⊢
   ·obtain ⟨n', h1, hn', hsub, hR'⟩ := he
    exact Lp.weak (ih n' (by omega) _ _ hR') fun w0 h0 a w hs => hs.forget hsub
   all_goals exact he
 refine Wp.weak (Wp.loop _ (key (n + 1) n (by omega) _ h hR)) fun w0 h0 a w hs => hs.less (lk_keep ks ρ)
structure Okf (P : Program) (f : FuncId) (fn : Func) (ac : ACode) (rs : List RV) : Prop where
 hf : P.funcs[f]? = some fn
 ht : trF P fn = some (ac.bare, rs)
 hm : P.follows .mixedOrders = true
 hd : drOk ac = true
theorem Spec.walk {f : FuncId} {fn : Func} {ac : ACode} {rs : List RV} {args : List AV} {h : Heap} {Q : AV → Heap → Prop} (ho : Okf P f fn ac rs)
  (hn : Nat.ble args.length fn.ntmps = true) (hw : wpc P G fn.ntmps ac (retQ rs Q) (argEnv args) h) : Spec P G f args h Q :=
 Spec.of_tr ho.hf ho.ht (Nat.le_of_ble_eq_true hn) (Wp.of_wpc ho.hm ac ho.hd _ _ _ hw)
theorem SpecD.walk {f : FuncId} {fn : Func} {ac : ACode} {rs : List RV} {args : List AV} {h : Heap} {Q : AV → Heap → Prop} (ho : Okf P f fn ac rs)
  (hn : Nat.ble args.length fn.ntmps = true) (hw : wpc P G fn.ntmps ac (retQ rs Q) (argEnv args) h) : SpecD P G f args h Q :=
 SpecD.of_tr ho.hf ho.ht (Nat.le_of_ble_eq_true hn) (Wp.of_wpc ho.hm ac ho.hd _ _ _ hw)
structure Okd (P : Program) (f : FuncId) (fn : Func) (x : ACode) (D : Nat × Nat × List Operand) (y : ACode) (rs : List RV) : Prop where
 hf : P.funcs[f]? = some fn
 ht : trD P fn = some (x.bare, D, y.bare, rs)
 hm : P.follows .mixedOrders = true
 hx : drOk x = true
 hy : drOk y = true
def midC (P : Program) (G : Glo) (N d g : Nat) (caps : List Operand) (y : ACode) (rs : List RV) (Q : AV → Heap → Prop) : Exit → Env → Heap → Prop
 | .normal, ρ, h => wpc P G N y (defQ P G g (caps.map (xv G ρ)) rs Q) (put (some d) (.fn g [] (caps.map (xv G ρ))) ρ) h
 | _, _, _ => False
end
def Is (v : AV) (h : Heap) (r : AV) (h' : Heap) : Prop := r = v ∧ h = h'
theorem Spec.to {P : Program} {G : Glo} {f : FuncId} {args : List AV} {h h1 : Heap} {v : AV} {Q : AV → Heap → Prop} (hs : Spec P G f args h (Is v h1)) (hq : Q v h1) : Spec P G f args h Q :=
 hs.mono fun _ _ ⟨e1, e2⟩ => by subst e1; subst e2; exact hq
def IsS (v : AV) (h : Heap) (r : AV) (h' : Heap) : Prop := r = v ∧ Sub h h'
theorem Spec.is {P : Program} {G : Glo} {f : FuncId} {fn : Func} {ac : ACode} {rs : List RV} {args : List AV} {h h1 : Heap} {v : AV} (ho : Okf P f fn ac rs)
  (hn : Nat.ble args.length fn.ntmps = true) (hw : wpc P G fn.ntmps ac (retQ rs (IsS v h1)) (argEnv args) h) : Spec P G f args h (Is v h1) :=
 Spec.drop ((Spec.walk ho hn hw).mono fun _ _ ⟨e1, e2⟩ => ⟨h1, e2, e1, rfl⟩)
theorem upd_at {h : Heap} {b c : Nat} {x : Blk} : upd h b x c = if c = b then some x else h c := rfl
theorem era_none {h : Heap} {b : Nat} (hb : h b = none) : era h b = h := by
 funext c; simp only [era]; split
 ·rename_i e; rw [e, hb]
 ·rfl
section eqs
@[push_cast] theorem IsS_app {v r : AV} {h h' : Heap} : IsS v h r h' = (r = v ∧ Sub h h') := by rw [IsS]
@[push_cast] theorem Sub_refl {h : Heap} : Sub h h = True := by simp [Sub.refl]
@[push_cast] theorem Is_app {v r : AV} {h h' : Heap} : Is v h r h' = (r = v ∧ h = h') := by rw [Is]
@[push_cast] theorem midC_n {P : Program} {G : Glo} {N d g : Nat} {caps : List Operand} {y : ACode} {rs : List RV} {Q : AV → Heap → Prop} {ρ : Env} {h : Heap} : midC P G N d g caps y rs Q .normal ρ h = wpc P G N y (defQ P G g (caps.map (xv G ρ)) rs Q) (put (some d) (.fn g [] (caps.map (xv G ρ))) ρ) h := by rw [midC]
@[push_cast] theorem defQ_n {P : Program} {G : Glo} {g : Nat} {vs : List AV} {rs : List RV} {Q : AV → Heap → Prop} {ρ : Env} {h : Heap} : defQ P G g vs rs Q .normal ρ h = SpecD P G g vs h fun _ => retQ rs Q .ret ρ := by rw [defQ]; rfl
@[push_cast] theorem defQ_r {P : Program} {G : Glo} {g : Nat} {vs : List AV} {rs : List RV} {Q : AV → Heap → Prop} {ρ : Env} {h : Heap} : defQ P G g vs rs Q .ret ρ h = SpecD P G g vs h fun _ => retQ rs Q .ret ρ := by rw [defQ]; rfl
variable {P : Program} {G : Glo} {N : Nat} {Q : Exit → Env → Heap → Prop} {K : Md → Env → Heap → Prop} {q : Env → Heap → Prop} {ρ acc : Env} {h : Heap} {d : Option Nat} {r : RK} {ek : EK} {k : Ab.K} {s s' : Nat} {w w' e b t : Bool} {rest : List AOp} {o : AOp} {v v' x : AV}
@[push_cast] theorem wpc_skip : wpc P G N .skip Q ρ h = Q .normal ρ h := by rw [wpc]
@[push_cast] theorem wpc_ret : wpc P G N .ret Q ρ h = Q .ret ρ h := by rw [wpc]
@[push_cast] theorem wpc_exit {id : Nat} : wpc P G N (.exit id) Q ρ h = Q (.exit id) ρ h := by rw [wpc]
@[push_cast] theorem wpc_seq {ks a c} : wpc P G N (.seq ks a c) Q ρ h = wpc P G N a (thn ks (wpc P G N c Q) Q) ρ h := by rw [wpc]
@[push_cast] theorem wpc_cond {a c o} : wpc P G N (.cond o a c) Q ρ h = cndQ (xv G ρ o) (wpcU (wpc P G N a Q) ρ h) (wpcU (wpc P G N c Q) ρ h) := by rw [wpc]
@[push_cast] theorem wpc_block {id a} : wpc P G N (.block id a) Q ρ h = wpc P G N a (blk id Q) ρ h := by rw [wpc]
@[push_cast] theorem wpc_scp {a} : wpc P G N (.scp a) Q ρ h = wpc P G N a (scQ Q) ρ h := by rw [wpc]
@[push_cast] theorem wpc_lab : wpc P G N .lab Q ρ h = Q .normal ρ h := by rw [wpc]
@[push_cast] theorem scQ_n : scQ Q .normal ρ h = Q .normal ρ h := by rw [scQ]; intro l e; cases e
@[push_cast] theorem scQ_r : scQ Q .ret ρ h = Q .ret ρ h := by rw [scQ]; intro l e; cases e
@[push_cast] theorem scQ_e {id : Nat} : scQ Q (.exit id) ρ h = Q (.exit id) ρ h := by rw [scQ]; intro l e; cases e
@[push_cast] theorem wpc_loop {a} : wpc P G N (.loop a) Q ρ h = lpc P G N a Q ρ h := by rw [wpc]
@[push_cast] theorem wpc_reg {ops} : wpc P G N (.reg ops) Q ρ h = rwq P G (Q .normal) ops .u ρ h := by rw [wpc]
@[push_cast] theorem wpc_dreg {ops es od} : wpc P G N (.dreg ops es od) Q ρ h = dwp P G ops od ρ h (Q .normal) := by rw [wpc]
@[push_cast] theorem wpc_dregt {ops es t} : wpc P G N (.dregt ops es t) Q ρ h = dwpT P G ops (Q .normal) t ρ h := by rw [wpc]
@[push_cast] theorem wpc_fz {a} : wpc P G N (.fz s a) Q ρ h = fzQ s (wpc P G N a Q) ρ h (lk ρ s) := by rw [wpc]
@[push_cast] theorem wpc_wk {a} : wpc P G N (.wk s a) Q ρ h = wkQ (wkK s (wpc P G N a Q) ρ) (lk ρ s) h := by rw [wpc]
@[push_cast] theorem wkK_app : wkK s q ρ v h = q (put (some s) v ρ) h := by rw [wkK]
@[push_cast] theorem fzQ_ptr {c : Nat} : fzQ s q ρ h (.ptr c 0) = bindO (h c) (fzK s c q ρ h) := by rw [fzQ]
@[push_cast] theorem fzK_app {c : Nat} {y} : fzK s c q ρ h y = q (put (some s) (.cp y.cells 0) ρ) (era h c) := by rw [fzK]
@[push_cast] theorem era_upd {c : Nat} {y} : era (upd h c y) c = era h c := by funext d; simp only [era, upd]; split <;> rfl
@[push_cast] theorem wpcU_app {u : Unit} : wpcU q ρ h u = q ρ h := by rw [wpcU]
@[push_cast] theorem cndQ_true {yes no : Unit → Prop} : cndQ (.bool true) yes no = yes () := by simp [cndQ]
@[push_cast] theorem cndQ_false {yes no : Unit → Prop} : cndQ (.bool false) yes no = no () := by simp [cndQ]
@[push_cast 900] theorem cndQ_b {yes no : Unit → Prop} : cndQ (.bool b) yes no = ((b = true → yes ()) ∧ (b = false → no ())) := by rw [cndQ]
@[push_cast] theorem rwq_nil_u : rwq P G q [] .u ρ h = q ρ h := by rw [rwq, fls]
@[push_cast] theorem rwq_nil_g : rwq P G q [] (.g s w e acc) ρ h = q (flush e acc ρ) h := by rw [rwq, fls]
@[push_cast] theorem rwq_cons {m} : rwq P G q (o :: rest) m ρ h = stepM P G m o ρ h (rwq P G q rest) := by rw [rwq]
@[push_cast] theorem stepM_u : stepM P G .u o ρ h K = stepU P G o ρ h K := by rw [stepM]
@[push_cast] theorem stepM_gn : stepM P G (.g s w e acc) ⟨d, none, k⟩ ρ h K = stepU P G ⟨d, none, k⟩ (flush e acc ρ) h K := by rw [stepM]
@[push_cast] theorem stepM_gg : stepM P G (.g s w e acc) ⟨d, some (s', w'), k⟩ ρ h K = if s' = s ∧ w' = w then stepG P G s w e acc ⟨d, some (s', w'), k⟩ ρ h K
      else if acc.any (fun x => x.1 == s') = true then frk e (uyes P G ⟨d, some (s', w'), k⟩ s w acc ρ h K) (uno P G ⟨d, some (s', w'), k⟩ s w acc ρ h K)
      else stepU P G ⟨d, some (s', w'), k⟩ (flush e acc ρ) h K := by rw [stepM]
@[push_cast] theorem stepU_n : stepU P G ⟨d, none, k⟩ ρ h K = opq P G ⟨d, none, k⟩ ρ h K := by rw [stepU]
@[push_cast] theorem stepU_g : stepU P G ⟨d, some (s, w), k⟩ ρ h K = bindO (gval (lk ρ s) w) (sgK P G ⟨d, some (s, w), k⟩ s w ρ h K) := by rw [stepU]
@[push_cast] theorem sgK_app : sgK P G o s w ρ h K e = stepG P G s w e [] o ρ h K := by rw [sgK]
@[push_cast] theorem opq_r {g} : opq P G ⟨d, g, .r r⟩ ρ h K = bindO (evR G r ρ h) (rdK K d ρ h) := by rw [opq]
@[push_cast] theorem opq_e {g} : opq P G ⟨d, g, .e ek⟩ ρ h K = stE P G ek ρ h (reK K d ρ) := by rw [opq]
@[push_cast] theorem rdK_app : rdK K d ρ h v = K .u (put d v ρ) h := by rw [rdK]
@[push_cast] theorem reK_app : reK K d ρ v h = K .u (put d v ρ) h := by rw [reK]
@[push_cast] theorem rgK_app : rgK K d s w e acc ρ h v = K (.g s w e (put d v acc)) ρ h := by rw [rgK]
@[push_cast] theorem stepG_r {g} : stepG P G s w e acc ⟨d, g, .r r⟩ ρ h K = if tot r = true ∧ d ≠ some s then bindG e (evR G r (acc ++ ρ) h) (rgK K d s w e acc ρ h) else frk e (fyR P G ⟨d, g, .r r⟩ s w acc ρ h K) (fno ⟨d, g, .r r⟩ s w acc ρ h K) := by rw [stepG]
@[push_cast] theorem stepG_e {g} : stepG P G s w e acc ⟨d, g, .e ek⟩ ρ h K = frk e (fyR P G ⟨d, g, .e ek⟩ s w acc ρ h K) (fno ⟨d, g, .e ek⟩ s w acc ρ h K) := by rw [stepG]
@[push_cast] theorem fyR_app {g} {u : Unit} : fyR P G ⟨d, g, k⟩ s w acc ρ h K u = opq P G ⟨d, none, k⟩ (put (some s) (.bool w) (acc ++ ρ)) h K := by rw [fyR]
@[push_cast] theorem fno_app {g} {u : Unit} : fno ⟨d, g, k⟩ s w acc ρ h K u = K .u (put d (.tup []) (put (some s) (setg (lk (flush false acc ρ) s) w) (flush false acc ρ))) h := by rw [fno]
@[push_cast] theorem uyes_app {u : Unit} : uyes P G o s w acc ρ h K u = stepU P G o (put (some s) (.bool w) (acc ++ ρ)) h K := by rw [uyes]
@[push_cast] theorem uno_app {u : Unit} : uno P G o s w acc ρ h K u = stepU P G o (put (some s) (setg (lk (flush false acc ρ) s) w) (flush false acc ρ)) h K := by rw [uno]
@[push_cast] theorem frk_true {yes no : Unit → Prop} : frk true yes no = yes () := by simp [frk]
@[push_cast] theorem frk_false {yes no : Unit → Prop} : frk false yes no = no () := by simp [frk]
@[push_cast 900] theorem frk_b {yes no : Unit → Prop} : frk e yes no = ((e = true → yes ()) ∧ (e = false → no ())) := by rw [frk]
@[push_cast] theorem bindG_some {K : AV → Prop} : bindG e (some v) K = K v := by simp [bindG]
@[push_cast] theorem bindG_false {K : AV → Prop} {o : Option AV} : bindG false o K = K (o.getD .any) := by simp [bindG]
@[push_cast] theorem bindO_ite {α : Type} {c : Prop} [Decidable c] {v : α} {K : α → Prop} : bindO (if c then some v else none) K = (c ∧ K v) := by split <;> simp [bindO, *]
@[push_cast] theorem bindO_ite' {α : Type} {c : Prop} [Decidable c] {v : α} {K : α → Prop} : bindO (if c then none else some v) K = (¬c ∧ K v) := by split <;> simp [bindO, *]
@[push_cast] theorem gval_b : gval (.bool b) w = some (b == w) := rfl
@[push_cast] theorem gval_tup {l} : gval (.tup l) w = some false := rfl
@[push_cast] theorem gval_gvv : gval (gvv t (.bool b)) w = some (t && (b == w)) := by cases t <;> rfl
@[push_cast] theorem setg_b : setg (.bool b) w = .bool (!w) := rfl
@[push_cast] theorem setg_tup {l} : setg (.tup l) w = .tup l := rfl
@[push_cast] theorem setg_gvv : setg (gvv t (.bool b)) w = gvv t (.bool (!w)) := by cases t <;> rfl
@[push_cast] theorem gvv_t : gvv true v = v := rfl
@[push_cast] theorem gvv_f : gvv false v = .tup [] := rfl
@[push_cast] theorem pk_t : (bif t then gvv t v else x) = bif t then v else x := by cases t <;> rfl
@[push_cast] theorem pk_f : (bif t then x else gvv (!t) v) = bif t then x else v := by cases t <;> rfl
@[push_cast] theorem pk_b {a c : Bool} : (bif t then AV.bool a else AV.bool c) = .bool (bif t then a else c) := by cases t <;> rfl
@[push_cast] theorem pk_or {a : Bool} : (bif t then true else a) = (t || a) := by cases t <;> rfl
@[push_cast] theorem pk_and {a : Bool} : (bif t then a else false) = (t && a) := by cases t <;> rfl
end eqs
attribute [push_cast] and_false false_and Option.some.injEq flush lpQ tot beq_true beq_false Bool.true_beq Bool.false_beq Bool.not_true Bool.not_false Bool.true_and Bool.and_true Bool.false_and Bool.and_false Bool.or_true Bool.true_or Bool.or_false Bool.false_or List.any_cons List.any_nil
end Go.Ab
end
section
namespace Go.Ab
theorem wr_u (w : Nat) (n : Int) : n % (2 ^ w : Int) = ((BitVec.ofInt w n).toNat : Int) := by
 rw [BitVec.toNat_ofInt, Int.toNat_of_nonneg (Int.emod_nonneg _ (by have : 0 < 2 ^ w := Nat.two_pow_pos w; exact_mod_cast Nat.ne_of_gt this))]
 simp
@[push_cast] theorem wr_u8 (n : Int) : IntKind.u8.wrap n = ((BitVec.ofInt 8 n).toNat : Int) := by simp only [IntKind.wrap, IntKind.signed, IntKind.bits, Bool.false_and, Bool.false_eq_true, if_false]; exact wr_u 8 n
@[push_cast] theorem wr_u16 (n : Int) : IntKind.u16.wrap n = ((BitVec.ofInt 16 n).toNat : Int) := by simp only [IntKind.wrap, IntKind.signed, IntKind.bits, Bool.false_and, Bool.false_eq_true, if_false]; exact wr_u 16 n
@[push_cast] theorem wr_u32 (n : Int) : IntKind.u32.wrap n = ((BitVec.ofInt 32 n).toNat : Int) := by simp only [IntKind.wrap, IntKind.signed, IntKind.bits, Bool.false_and, Bool.false_eq_true, if_false]; exact wr_u 32 n
@[push_cast] theorem wr_u64 (n : Int) : IntKind.u64.wrap n = ((BitVec.ofInt 64 n).toNat : Int) := by simp only [IntKind.wrap, IntKind.signed, IntKind.bits, Bool.false_and, Bool.false_eq_true, if_false]; exact wr_u 64 n
@[push_cast] theorem bits_u8 : IntKind.u8.bits = 8 := rfl
@[push_cast] theorem bits_u16 : IntKind.u16.bits = 16 := rfl
@[push_cast] theorem bits_u32 : IntKind.u32.bits = 32 := rfl
@[push_cast] theorem bits_u64 : IntKind.u64.bits = 64 := rfl
@[push_cast] theorem bits_i64 : IntKind.i64.bits = 64 := rfl
@[push_cast] theorem ofInt_toNat {m n : Nat} (x : BitVec n) : BitVec.ofInt m (x.toNat : Int) = x.setWidth m := by
 rw [BitVec.ofInt_natCast, BitVec.ofNat_toNat]
@[push_cast] theorem toNat_neg (x : Nat) : ((x : Int) < 0) = False := by simp
@[push_cast] theorem fdiv_shr {n s : Nat} (x : BitVec n) : (x.toNat : Int).fdiv (2 ^ s) = ((x >>> s).toNat : Int) := by
 rw [Int.fdiv_eq_ediv_of_nonneg _ (by have : 0 < 2 ^ s := Nat.two_pow_pos s; exact_mod_cast Nat.le_of_lt this), BitVec.toNat_ushiftRight, Nat.shiftRight_eq_div_pow]
 simp
@[push_cast 1100] theorem ofInt_shl {n s : Nat} (x : BitVec n) : BitVec.ofInt n ((x.toNat : Int) * 2 ^ s) = x <<< s := by
 have : ((x.toNat : Int) * 2 ^ s) = ((x.toNat * 2 ^ s : Nat) : Int) := by simp
 rw [this, BitVec.ofInt_natCast]
 apply BitVec.eq_of_toNat_eq
 rw [BitVec.toNat_ofNat, BitVec.toNat_shiftLeft, Nat.shiftLeft_eq]
@[push_cast] theorem ofInt_add_l {n : Nat} (x : BitVec n) (k : Int) : BitVec.ofInt n ((x.toNat : Int) + k) = x + BitVec.ofInt n k := by rw [BitVec.ofInt_add, ofInt_toNat, BitVec.setWidth_eq]
@[push_cast] theorem ofInt_add_r {n : Nat} (x : BitVec n) (k : Int) : BitVec.ofInt n (k + (x.toNat : Int)) = BitVec.ofInt n k + x := by rw [BitVec.ofInt_add, ofInt_toNat, BitVec.setWidth_eq]
@[push_cast] theorem ofInt_mul_l {n : Nat} (x : BitVec n) (k : Int) : BitVec.ofInt n ((x.toNat : Int) * k) = x * BitVec.ofInt n k := by rw [BitVec.ofInt_mul, ofInt_toNat, BitVec.setWidth_eq]
@[push_cast] theorem ofInt_mul_r {n : Nat} (x : BitVec n) (k : Int) : BitVec.ofInt n (k * (x.toNat : Int)) = BitVec.ofInt n k * x := by rw [BitVec.ofInt_mul, ofInt_toNat, BitVec.setWidth_eq]
theorem ofInt_sub' {n : Nat} (a b : Int) : BitVec.ofInt n (a - b) = BitVec.ofInt n a - BitVec.ofInt n b := by rw [Int.sub_eq_add_neg, BitVec.ofInt_add, BitVec.ofInt_neg, BitVec.sub_eq_add_neg]
@[push_cast] theorem ofInt_sub_l {n : Nat} (x : BitVec n) (k : Int) : BitVec.ofInt n ((x.toNat : Int) - k) = x - BitVec.ofInt n k := by rw [ofInt_sub', ofInt_toNat, BitVec.setWidth_eq]
@[push_cast] theorem ofInt_sub_r {n : Nat} (x : BitVec n) (k : Int) : BitVec.ofInt n (k - (x.toNat : Int)) = BitVec.ofInt n k - x := by rw [ofInt_sub', ofInt_toNat, BitVec.setWidth_eq]
theorem toNat_ofInt64 {x : Int} (h0 : 0 ≤ x) (h1 : x < 18446744073709551616) : (BitVec.ofInt 64 x).toNat = x.toNat := by
 rw [BitVec.toNat_ofInt]; congr 1; omega
@[push_cast] theorem two_pow_ne {s : Nat} : ((2 : Int) ^ s = 0) = False := by
 have : ((2 : Int) ^ s) = ((2 ^ s : Nat) : Int) := by simp
 have h2 := Nat.two_pow_pos s
 rw [this]
 simp only [eq_iff_iff, iff_false]
 omega
theorem or_shl {n : Nat} (x y s : Nat) (hx : x < 2 ^ s) : BitVec.ofNat n x ||| (BitVec.ofNat n y <<< s) = BitVec.ofNat n (x + 2 ^ s * y) := by
 have h1 : BitVec.ofNat n y <<< s = BitVec.ofNat n (2 ^ s * y) := by
  apply BitVec.eq_of_toNat_eq
  simp only [BitVec.toNat_shiftLeft, BitVec.toNat_ofNat, Nat.shiftLeft_eq, Nat.mod_mul_mod]
  rw [Nat.mul_comm]
 rw [h1, ← BitVec.ofNat_or, Nat.or_comm, ← Nat.two_pow_add_eq_or_of_lt hx, Nat.add_comm]
@[push_cast] theorem tdiv_pow {n s : Nat} (x : BitVec n) : (x.toNat : Int).tdiv (2 ^ s) = ((x >>> s).toNat : Int) := by
 have : ((2 : Int) ^ s) = ((2 ^ s : Nat) : Int) := by simp
 rw [this, BitVec.toNat_ushiftRight, Nat.shiftRight_eq_div_pow]
 simp
@[push_cast] theorem ofInt8_tmod {n : Nat} (x : BitVec n) : BitVec.ofInt 8 ((x.toNat : Int).tmod 256) = x.setWidth 8 := by
 have : (x.toNat : Int).tmod 256 = ((x.toNat % 256 : Nat) : Int) := rfl
 rw [this, BitVec.ofInt_natCast]
 apply BitVec.eq_of_toNat_eq
 simp
@[push_cast] theorem shr_setWidth {s : Nat} (w : BitVec 32) : ((w.setWidth 64 >>> s).setWidth 8) = (w >>> s).setWidth 8 := by
 apply BitVec.eq_of_toNat_eq
 have := w.isLt
 simp only [BitVec.toNat_setWidth, BitVec.toNat_ushiftRight, Nat.shiftRight_eq_div_pow]
 rw [Nat.mod_eq_of_lt (show w.toNat < 2 ^ 64 by omega)]
@[push_cast] theorem tdiv_nat (a b : Nat) : (a : Int).tdiv (b : Int) = ((a / b : Nat) : Int) := by simp
@[push_cast] theorem tmod_nat (a b : Nat) : (a : Int).tmod (b : Int) = ((a % b : Nat) : Int) := rfl
@[push_cast] theorem beq_toNat {n : Nat} (x y : BitVec n) : ((x.toNat : Int) == (y.toNat : Int)) = (x == y) := by
 rw [Bool.eq_iff_iff]; simp only [beq_iff_eq, Int.natCast_inj, BitVec.toNat_inj]
@[push_cast] theorem bne_toNat {n : Nat} (x y : BitVec n) : ((x.toNat : Int) != (y.toNat : Int)) = (x != y) := by
 simp only [bne, beq_toNat]
@[push_cast] theorem abin_and_u8 (a b : Int) : abin .and (.int .u8 a) (.int .u8 b) = some (.int .u8 ((BitVec.ofInt 8 a &&& BitVec.ofInt 8 b).toNat : Int)) := by
 show (if IntKind.u8 = IntKind.u8 then some (AV.int .u8 (IntKind.u8.wrap ((BitVec.ofInt 8 a &&& BitVec.ofInt 8 b).toNat : Int))) else none) = _
 rw [if_pos rfl, wr_u8, ofInt_toNat, BitVec.setWidth_eq]
@[push_cast] theorem abin_or_u8 (a b : Int) : abin .or (.int .u8 a) (.int .u8 b) = some (.int .u8 ((BitVec.ofInt 8 a ||| BitVec.ofInt 8 b).toNat : Int)) := by
 show (if IntKind.u8 = IntKind.u8 then some (AV.int .u8 (IntKind.u8.wrap ((BitVec.ofInt 8 a ||| BitVec.ofInt 8 b).toNat : Int))) else none) = _
 rw [if_pos rfl, wr_u8, ofInt_toNat, BitVec.setWidth_eq]
@[push_cast] theorem abin_xor_u8 (a b : Int) : abin .xor (.int .u8 a) (.int .u8 b) = some (.int .u8 ((BitVec.ofInt 8 a ^^^ BitVec.ofInt 8 b).toNat : Int)) := by
 show (if IntKind.u8 = IntKind.u8 then some (AV.int .u8 (IntKind.u8.wrap ((BitVec.ofInt 8 a ^^^ BitVec.ofInt 8 b).toNat : Int))) else none) = _
 rw [if_pos rfl, wr_u8, ofInt_toNat, BitVec.setWidth_eq]
@[push_cast] theorem abin_andNot_u8 (a b : Int) : abin .andNot (.int .u8 a) (.int .u8 b) = some (.int .u8 ((BitVec.ofInt 8 a &&& ~~~ BitVec.ofInt 8 b).toNat : Int)) := by
 show (if IntKind.u8 = IntKind.u8 then some (AV.int .u8 (IntKind.u8.wrap ((BitVec.ofInt 8 a &&& ~~~ BitVec.ofInt 8 b).toNat : Int))) else none) = _
 rw [if_pos rfl, wr_u8, ofInt_toNat, BitVec.setWidth_eq]
@[push_cast] theorem abin_and_u32 (a b : Int) : abin .and (.int .u32 a) (.int .u32 b) = some (.int .u32 ((BitVec.ofInt 32 a &&& BitVec.ofInt 32 b).toNat : Int)) := by
 show (if IntKind.u32 = IntKind.u32 then some (AV.int .u32 (IntKind.u32.wrap ((BitVec.ofInt 32 a &&& BitVec.ofInt 32 b).toNat : Int))) else none) = _
 rw [if_pos rfl, wr_u32, ofInt_toNat, BitVec.setWidth_eq]
@[push_cast] theorem abin_or_u32 (a b : Int) : abin .or (.int .u32 a) (.int .u32 b) = some (.int .u32 ((BitVec.ofInt 32 a ||| BitVec.ofInt 32 b).toNat : Int)) := by
 show (if IntKind.u32 = IntKind.u32 then some (AV.int .u32 (IntKind.u32.wrap ((BitVec.ofInt 32 a ||| BitVec.ofInt 32 b).toNat : Int))) else none) = _
 rw [if_pos rfl, wr_u32, ofInt_toNat, BitVec.setWidth_eq]
@[push_cast] theorem abin_xor_u32 (a b : Int) : abin .xor (.int .u32 a) (.int .u32 b) = some (.int .u32 ((BitVec.ofInt 32 a ^^^ BitVec.ofInt 32 b).toNat : Int)) := by
 show (if IntKind.u32 = IntKind.u32 then some (AV.int .u32 (IntKind.u32.wrap ((BitVec.ofInt 32 a ^^^ BitVec.ofInt 32 b).toNat : Int))) else none) = _
 rw [if_pos rfl, wr_u32, ofInt_toNat, BitVec.setWidth_eq]
@[push_cast] theorem abin_andNot_u32 (a b : Int) : abin .andNot (.int .u32 a) (.int .u32 b) = some (.int .u32 ((BitVec.ofInt 32 a &&& ~~~ BitVec.ofInt 32 b).toNat : Int)) := by
 show (if IntKind.u32 = IntKind.u32 then some (AV.int .u32 (IntKind.u32.wrap ((BitVec.ofInt 32 a &&& ~~~ BitVec.ofInt 32 b).toNat : Int))) else none) = _
 rw [if_pos rfl, wr_u32, ofInt_toNat, BitVec.setWidth_eq]
@[push_cast] theorem abin_and_u64 (a b : Int) : abin .and (.int .u64 a) (.int .u64 b) = some (.int .u64 ((BitVec.ofInt 64 a &&& BitVec.ofInt 64 b).toNat : Int)) := by
 show (if IntKind.u64 = IntKind.u64 then some (AV.int .u64 (IntKind.u64.wrap ((BitVec.ofInt 64 a &&& BitVec.ofInt 64 b).toNat : Int))) else none) = _
 rw [if_pos rfl, wr_u64, ofInt_toNat, BitVec.setWidth_eq]
@[push_cast] theorem abin_or_u64 (a b : Int) : abin .or (.int .u64 a) (.int .u64 b) = some (.int .u64 ((BitVec.ofInt 64 a ||| BitVec.ofInt 64 b).toNat : Int)) := by
 show (if IntKind.u64 = IntKind.u64 then some (AV.int .u64 (IntKind.u64.wrap ((BitVec.ofInt 64 a ||| BitVec.ofInt 64 b).toNat : Int))) else none) = _
 rw [if_pos rfl, wr_u64, ofInt_toNat, BitVec.setWidth_eq]
@[push_cast] theorem abin_xor_u64 (a b : Int) : abin .xor (.int .u64 a) (.int .u64 b) = some (.int .u64 ((BitVec.ofInt 64 a ^^^ BitVec.ofInt 64 b).toNat : Int)) := by
 show (if IntKind.u64 = IntKind.u64 then some (AV.int .u64 (IntKind.u64.wrap ((BitVec.ofInt 64 a ^^^ BitVec.ofInt 64 b).toNat : Int))) else none) = _
 rw [if_pos rfl, wr_u64, ofInt_toNat, BitVec.setWidth_eq]
@[push_cast] theorem abin_andNot_u64 (a b : Int) : abin .andNot (.int .u64 a) (.int .u64 b) = some (.int .u64 ((BitVec.ofInt 64 a &&& ~~~ BitVec.ofInt 64 b).toNat : Int)) := by
 show (if IntKind.u64 = IntKind.u64 then some (AV.int .u64 (IntKind.u64.wrap ((BitVec.ofInt 64 a &&& ~~~ BitVec.ofInt 64 b).toNat : Int))) else none) = _
 rw [if_pos rfl, wr_u64, ofInt_toNat, BitVec.setWidth_eq]
@[push_cast] theorem len_beq (a b : Nat) : ((a : Int) == (b : Int)) = decide (a = b) := by
 rw [Bool.eq_iff_iff]; simp; omega
theorem wrap_of {k : IntKind} {x : Int} (h : k.min ≤ x ∧ x ≤ k.max) : k.wrap x = x := by
 unfold IntKind.wrap
 obtain ⟨h1, h2⟩ := h
 cases k <;> simp [IntKind.signed, IntKind.bits, IntKind.min, IntKind.max] at * <;> omega
theorem wrap_i64 {x : Int} (h1 : -9223372036854775808 ≤ x) (h2 : x ≤ 9223372036854775807) : IntKind.i64.wrap x = x := wrap_of ⟨h1, h2⟩
@[push_cast] theorem i64_toNat (x : BitVec 32) : IntKind.i64.wrap (x.toNat : Int) = x.toNat := wrap_i64 (by omega) (by have := x.isLt; omega)
@[push_cast] theorem i64_toNat8 (x : BitVec 8) : IntKind.i64.wrap (x.toNat : Int) = x.toNat := wrap_i64 (by omega) (by have := x.isLt; omega)
def bys (l : List (BitVec 8)) : List AV := l.map fun x => .int .u8 (x.toNat : Int)
def wds (l : List (BitVec 32)) : List AV := l.map fun x => .int .u32 (x.toNat : Int)
@[push_cast] theorem bys_len (l) : (bys l).length = l.length := by simp [bys]
@[push_cast] theorem wds_len (l) : (wds l).length = l.length := by simp [wds]
@[push_cast] theorem bys_get (l : List (BitVec 8)) (i : Nat) : (bys l)[i]? = if i < l.length then some (AV.int .u8 ((l.getD i 0#8).toNat : Int)) else none := by
 simp only [bys, List.getElem?_map]
 split
 ·rename_i h; simp [h]
 ·rename_i h; simp [Nat.not_lt.1 h]
@[push_cast] theorem wds_get (l : List (BitVec 32)) (i : Nat) : (wds l)[i]? = if i < l.length then some (AV.int .u32 ((l.getD i 0#32).toNat : Int)) else none := by
 simp only [wds, List.getElem?_map]
 split
 ·rename_i h; simp [h]
 ·rename_i h; simp [Nat.not_lt.1 h]
theorem bys_drop (a : List (BitVec 8)) (n : Nat) : (bys a).drop n = bys (a.drop n) := by simp [bys, List.map_drop]
theorem bys_take (a : List (BitVec 8)) (n : Nat) : (bys a).take n = bys (a.take n) := by simp [bys, List.map_take]
abbrev byt (l : List (BitVec 8)) : AV := .ro (bys l) l.length
attribute [push_cast] decide_true decide_false BitVec.toNat_inj beq_iff_eq beq_eq_false_iff_ne bne_iff_ne bne_eq_false_iff_eq Bool.and_eq_true Bool.or_eq_true Bool.or_eq_false_iff Bool.bne_false BitVec.setWidth_eq decide_eq_true_eq decide_eq_false_iff_not Bool.not_eq_true Bool.not_eq_false Nat.min_self
end Go.Ab
end
section
namespace Go.Ab
structure Kp where
 st : BitVec 32
 ie : BitVec 32
 tv : BitVec 32
 sc : BitVec 32
 ep : BitVec 32
 ca : BitVec 32
 tl : BitVec 32
 deriving DecidableEq
def Kp.l (k : Kp) : List (BitVec 32) := [k.st, k.ie, k.tv, k.sc, k.ep, k.ca, k.tl]
@[push_cast] theorem Kp.l_len (k : Kp) : k.l.length = 7 := rfl
def Kp.zero : Kp := ⟨0, 0, 0, 0, 0, 0, 0⟩
abbrev Rg := Vector (BitVec 32) 32
def Rg.zero : Rg := Vector.replicate 32 0
structure Evt where
 kind : Int
 tick : BitVec 64
 value : BitVec 32
 cause : BitVec 32
 epc : BitVec 32
 tval : BitVec 32
 regs : Rg
 csrs : Kp
 deriving DecidableEq
def Evt.cells (e : Evt) : List AV := [.int .i64 e.kind, .int .u64 e.tick.toNat, .int .u32 e.value.toNat, .int .u32 e.cause.toNat, .int .u32 e.epc.toNat, .int .u32 e.tval.toNat] ++ (wds e.regs.toList ++ wds e.csrs.l)
theorem Evt.len (e : Evt) : e.cells.length = 45 := by simp [Evt.cells, wds, Kp.l]
def Evt.bare (e : Evt) : Evt := ⟨e.kind, e.tick, e.value, 0, 0, 0, Rg.zero, Kp.zero⟩
def Evt.right (e : Evt) : Bool := if e.kind = 1 then decide (e.value.toNat ≤ 255) && decide (e = e.bare) else if e.kind = 2 then decide (e.value = 0) else if e.kind = 3 then decide (e = e.bare) else false
def leB (w : BitVec 32) (n : Nat) : List (BitVec 8) := (List.range n).map fun i => (w >>> (8 * i)).setWidth 8
def leN : List (BitVec 8) → Nat
 | [] => 0
 | b :: r => b.toNat + 256 * leN r
theorem leN_app (a b : List (BitVec 8)) : leN (a ++ b) = leN a + 256 ^ a.length * leN b := by
 induction a with
 | nil => simp [leN]
 | cons x r ih => simp only [List.cons_append, leN, ih, List.length_cons, Nat.pow_succ]; rw [Nat.mul_add, ← Nat.mul_assoc, Nat.mul_comm 256 (256 ^ r.length)]; omega
theorem leN_lt (a : List (BitVec 8)) : leN a < 256 ^ a.length := by
 induction a with
 | nil => simp [leN]
 | cons x r ih => simp only [leN, List.length_cons, Nat.pow_succ]; have := x.isLt; omega
structure Past where
 tick : BitVec 64
 regs : Rg
 kept : Kp
def Past.zero : Past := ⟨0, Rg.zero, Kp.zero⟩
def Past.cells (p : Past) : List AV := .int .u64 p.tick.toNat :: (wds p.regs.toList ++ wds p.kept.l)
theorem Past.len (p : Past) : p.cells.length = 40 := by simp [Past.cells, wds, Kp.l]
section
variable (e : Evt) (p : Past) (v : AV)
@[push_cast] theorem Evt.c0 : e.cells[0]? = some (.int .i64 e.kind) := rfl
@[push_cast] theorem Evt.c1 : e.cells[1]? = some (.int .u64 e.tick.toNat) := rfl
@[push_cast] theorem Evt.c2 : e.cells[2]? = some (.int .u32 e.value.toNat) := rfl
@[push_cast] theorem Evt.c3 : e.cells[3]? = some (.int .u32 e.cause.toNat) := rfl
@[push_cast] theorem Evt.c4 : e.cells[4]? = some (.int .u32 e.epc.toNat) := rfl
@[push_cast] theorem Evt.c5 : e.cells[5]? = some (.int .u32 e.tval.toNat) := rfl
theorem wds_part (a b : List (BitVec 32)) : (wds a ++ wds b).take a.length = wds a := by
 have : (wds a).length = a.length := by simp [wds]
 rw [← this, List.take_left]
theorem wds_rest (a b : List (BitVec 32)) : (wds a ++ wds b).drop a.length = wds b := by
 have : (wds a).length = a.length := by simp [wds]
 rw [← this, List.drop_left]
@[push_cast] theorem Evt.regs_s : (e.cells.drop 6).take 32 = wds e.regs.toList := by
 have := wds_part e.regs.toList e.csrs.l
 rw [Vector.length_toList] at this
 exact this
@[push_cast] theorem Evt.csrs_s : (e.cells.drop 38).take 7 = wds e.csrs.l := by
 have := wds_rest e.regs.toList e.csrs.l
 rw [Vector.length_toList] at this
 show ((wds e.regs.toList ++ wds e.csrs.l).drop 32).take 7 = _
 rw [this]
 rfl
@[push_cast] theorem Evt.part_all : partOf e.cells 0 (some 45) = some (.agg e.cells) := by
 rw [partOf_some, if_pos (by rw [e.len]; omega), List.drop_zero, List.take_of_length_le (by rw [e.len]; omega)]
@[push_cast] theorem Evt.part_regs : partOf e.cells 6 (some 32) = some (.agg (wds e.regs.toList)) := by
 rw [partOf_some, if_pos (by rw [e.len]; omega), e.regs_s]
@[push_cast] theorem Evt.part_csrs : partOf e.cells 38 (some 7) = some (.agg (wds e.csrs.l)) := by
 rw [partOf_some, if_pos (by rw [e.len]; omega), e.csrs_s]
@[push_cast] theorem Evt.len' : e.cells.length = 45 := e.len
@[push_cast] theorem Past.len' : p.cells.length = 40 := p.len
@[push_cast] theorem Past.c0 : p.cells[0]? = some (.int .u64 p.tick.toNat) := rfl
theorem Past.reg (k : Nat) (hk : k < 32) : p.cells[1 + k]? = some (.int .u32 (p.regs.toList.getD k 0#32).toNat) := by
 simp only [Past.cells, Nat.add_comm 1 k, List.getElem?_cons_succ]
 rw [List.getElem?_append_left (by simp [wds, hk]), wds_get, if_pos (by simpa using hk)]
@[push_cast] theorem Evt.s1 (x : BitVec 64) : e.cells.set 1 (.int .u64 (x.toNat : Int)) = Evt.cells { e with tick := x } := rfl
@[push_cast] theorem Evt.s2 (x : BitVec 32) : e.cells.set 2 (.int .u32 (x.toNat : Int)) = Evt.cells { e with value := x } := rfl
@[push_cast] theorem Evt.s3 (x : BitVec 32) : e.cells.set 3 (.int .u32 (x.toNat : Int)) = Evt.cells { e with cause := x } := rfl
@[push_cast] theorem Evt.s4 (x : BitVec 32) : e.cells.set 4 (.int .u32 (x.toNat : Int)) = Evt.cells { e with epc := x } := rfl
@[push_cast] theorem Evt.s5 (x : BitVec 32) : e.cells.set 5 (.int .u32 (x.toNat : Int)) = Evt.cells { e with tval := x } := rfl
@[push_cast] theorem Evt.s_regs (r : Rg) : splice e.cells 6 (wds r.toList) = Evt.cells { e with regs := r } := by
 rw [splice_ne (by rw [wds_len]; simp), wds_len, Vector.length_toList]
 have := wds_rest e.regs.toList e.csrs.l
 rw [Vector.length_toList] at this
 show [AV.int .i64 e.kind, .int .u64 e.tick.toNat, .int .u32 e.value.toNat, .int .u32 e.cause.toNat, .int .u32 e.epc.toNat, .int .u32 e.tval.toNat] ++ wds r.toList ++ (wds e.regs.toList ++ wds e.csrs.l).drop 32 = _
 rw [this, List.append_assoc]
 rfl
@[push_cast] theorem Evt.s_csrs (k : Kp) : splice e.cells 38 (wds k.l) = Evt.cells { e with csrs := k } := by
 rw [splice_ne (by rw [wds_len]; simp [Kp.l]), wds_len]
 have h1 := wds_part e.regs.toList e.csrs.l
 have h2 := wds_rest e.regs.toList e.csrs.l
 rw [Vector.length_toList] at h1 h2
 show [AV.int .i64 e.kind, .int .u64 e.tick.toNat, .int .u32 e.value.toNat, .int .u32 e.cause.toNat, .int .u32 e.epc.toNat, .int .u32 e.tval.toNat] ++ (wds e.regs.toList ++ wds e.csrs.l).take 32 ++ wds k.l ++ (wds e.regs.toList ++ wds e.csrs.l).drop (32 + 7) = _
 rw [h1, ← List.drop_drop, h2]
 simp [Evt.cells, wds, Kp.l]
@[push_cast] theorem Past.pr (x y : AV) : partOf (x :: y :: p.cells) 3 (some 32) = some (.agg (wds p.regs.toList)) := by
 rw [partOf_some, if_pos (by simp only [List.length_cons, p.len]; omega)]
 have := wds_part p.regs.toList p.kept.l
 rw [Vector.length_toList] at this
 show some (AV.agg ((wds p.regs.toList ++ wds p.kept.l).take 32)) = _
 rw [this]
@[push_cast] theorem Past.pk (x y : AV) : partOf (x :: y :: p.cells) 35 (some 7) = some (.agg (wds p.kept.l)) := by
 rw [partOf_some, if_pos (by simp only [List.length_cons, p.len]; omega)]
 have := wds_rest p.regs.toList p.kept.l
 rw [Vector.length_toList] at this
 show some (AV.agg (((wds p.regs.toList ++ wds p.kept.l).drop 32).take 7)) = _
 rw [this, List.take_of_length_le (by rw [wds_len, Kp.l_len]; omega)]
@[push_cast] theorem Past.s0 (x : BitVec 64) : p.cells.set 0 (.int .u64 (x.toNat : Int)) = Past.cells ⟨x, p.regs, p.kept⟩ := rfl
end
end Go.Ab
end
section
namespace Go.Ab
section
variable {P : Program}
theorem isC_putObj {w : World} {D : Nat} {o o' : Obj} (ho : w.heap[D]? = some o) (hn : o.isCells = false) (b : Nat) (hk : isC w b) : isC (w.putObj D o') b := by
 by_cases e : b = D
 ·subst e; rw [isC_not hk ho] at hn; cases hn
 ·obtain ⟨c, t, f, e'⟩ := hk
  exact ⟨c, t, f, (World.putObj_heap_other e).trans e'⟩
theorem cell_ne {w : World} {D : Nat} {o : Obj} (ho : w.heap[D]? = some o) (hn : o.isCells = false) {b i : Nat} {v : Value} (hc : w.cell? ⟨b, i, none⟩ = some v) (_ho1 : v.oneCell' = true) {o' : Obj} : (w.putObj D o').cell? ⟨b, i, none⟩ = some v := by
 by_cases e : b = D
 ·subst e
  simp only [World.cell?, ho] at hc
  cases o <;> simp_all [Obj.isCells]
 ·rw [← hc]
  exact cell_of_heap (World.putObj_heap_other e)
theorem Rep.putU {w : World} {O : Nat → Prop} {D : Nat} {o o' : Obj} (ho : w.heap[D]? = some o) (hn : o.isCells = false) {a : AV} {v : Value} (h : Rep w O a v) : Rep (w.putObj D o') O a v := by
 have hsz : (w.putObj D o').heap.size = w.heap.size := by simp [World.putObj]
 induction h with
 | any v => exact .any v
 | int k n => exact .int k n
 | bool b => exact .bool b
 | str s => exact .str s
 | nilp => exact .nilp
 | ptr b off hk => exact .ptr b off (isC_putObj ho hn b hk)
 | cp cells off b o2 cs hb hO hc hr ih => exact .cp cells off b o2 cs (by rw [hsz]; exact hb) hO (fun i v hv => ⟨cell_ne ho hn (hc i v hv).1 (hc i v hv).2, (hc i v hv).2⟩) (fun i v hv => ih i v hv)
 | nils => exact .nils
 | sl b off len cap hlc hk => exact .sl b off len cap hlc (isC_putObj ho hn b hk)
 | sl0 b off a => exact .sl0 b off a
 | roe a cap => exact .roe a cap
 | ro cells len cap b o2 cs hlc hb hO hc hr ih => exact .ro cells len cap b o2 cs hlc (by rw [hsz]; exact hb) hO (fun i v hv => ⟨cell_ne ho hn (hc i v hv).1 (hc i v hv).2, (hc i v hv).2⟩) (fun i v hv => ih i v hv)
 | agg cells cs hl h1 hr ih => exact .agg cells cs hl h1 ih
 | tup vs cs hl hr ih => exact .tup vs cs hl ih
 | fn f first caps as cs hl hl' hr hr' ih ih' => exact .fn f first caps as cs hl hl' ih ih'
 | nilf => exact .nilf
 | mpp r => exact .mpp r
 | yl l => exact .yl l
theorem HRep.putU {w : World} {h : Heap} (hh : HRep w h) {D : Nat} {o o' : Obj} (hD : h D = none) (ho : w.heap[D]? = some o) (hn : o.isCells = false) : HRep (w.putObj D o') h := by
 intro b x hb
 have hne : b ≠ D := by rintro rfl; rw [hD] at hb; cases hb
 rcases hh b x hb with ⟨c, t, e1, e2, e3⟩ | ⟨o2, e1, e2, e3⟩
 ·refine .inl ⟨c, t, (World.putObj_heap_other hne).trans e1, e2, fun i v hv => ?_⟩
  obtain ⟨cv, e4, e5, e6⟩ := e3 i v hv
  exact ⟨cv, e4, e5, e6.putU ho hn⟩
 ·exact .inr ⟨o2, e1, e2, (World.putObj_heap_other hne).trans e3⟩
end
section
variable (P : Program) (G : Glo) (N : Nat)
abbrev lpB (r : Loop) : Blk := ⟨[.raw (.loop r)], 0⟩
def lpBusy (r : Loop) : Loop := { r with state := .busy }
def lpEnds (r : Loop) (c : Option Code) : Loop := { r with state := if c.isNone then .ready else .done, pending := c }
def rndQ (l : Nat) (r : Loop) (Q : AV → Heap → Prop) : Exit → Env → Heap → Prop
 | .normal, _, h => h l = some (lpB (lpBusy r)) ∧ Q (.bool true) (upd h l (lpB r))
 | .ret, _, h => h l = some (lpB (lpBusy r)) ∧ Q (.bool false) (upd h l (lpB (lpEnds r (some .ret))))
 | .exit id, _, h => h l = some (lpB (lpBusy r)) ∧ Q (.bool false) (upd h l (lpB (lpEnds r (some (.exit id)))))
 | _, _, _ => False
def asgQ (l : Nat) (r : Loop) (b : ACode) (Q : AV → Heap → Prop) : Exit → Env → Heap → Prop
 | .normal, ρ, h => h l = some (lpB r) ∧ wpc P G N b (rndQ l r Q) ρ (upd h l (lpB (lpBusy r)))
 | _, _, _ => False
def rndY (l : Nat) (r : Loop) (ρ : Env) (ps : List Nat) (a b : ACode) (l' : Nat) (args : List AV) (h : Heap) (Q : AV → Heap → Prop) : Prop :=
 l' = l ∧ args.length = ps.length ∧ h l = some (lpB r) ∧ wpc P G N a (asgQ P G N l r b Q) ((ps.zip args).reverse ++ ρ) h
def endQ (l : Nat) (r : Loop) (id : Nat) (K : Env → Heap → Prop) (Qr : Exit → Env → Heap → Prop) (ρ : Env) (h : Heap) : Prop :=
 (h l = some (lpB r) ∧ K ρ (era h l)) ∨ (h l = some (lpB (lpEnds r (some .ret))) ∧ Qr .ret ρ (era h l)) ∨ (h l = some (lpB (lpEnds r (some (.exit id)))) ∧ K ρ (era h l))
def rfV (id : Nat) (ps : List Nat) (a b : ACode) (K : Env → Heap → Prop) (Qr : Exit → Env → Heap → Prop) (ρ : Env) (h : Heap) (v : AV) : Prop :=
 match v with
 | .fn gf first caps => callable P gf ∧ ∀ (l : Nat) (r : Loop) (e : AV → Value → Prop), h l = none → r.state = .ready → r.pending = none →
   YOk P ⟨G.g, rndY P G N l r ρ ps a b, e⟩ → Spec P ⟨G.g, rndY P G N l r ρ ps a b, e⟩ gf (first ++ [.yl l] ++ caps) (upd h l (lpB r)) (fun _ h2 => endQ l r id K Qr ρ h2)
 | _ => False
def rfK (id g : Nat) (ps : List Nat) (a b : ACode) (K : Env → Heap → Prop) (Qr : Exit → Env → Heap → Prop) (ρ : Env) (h : Heap) : Prop := rfV P G N id ps a b K Qr ρ h (lk ρ g)
def wpS (K : Env → Heap → Prop) (Qr : Exit → Env → Heap → Prop) : List (List Nat × ACode) → Env → Heap → Prop
 | [] => K
 | x :: rest => wpc P G N x.2 (thn x.1 (wpS K Qr rest) Qr)
end
def flatC : Code → List Code
 | .seq a b => flatC a ++ flatC b
 | c => [c]
def trS (P : Program) (N : Nat) : List Code → Option (List ACode × (Nat × Nat × List Nat × ACode × ACode) × List ACode)
 | .block id (.rangeFunc (.tmp g) ps a b) :: c => match trC P N a, trC P N b, c.mapM (trC P N) with
  | some x, some y, some z => if ps.toList.all (fun t => decide (t < N)) then some ([], (id, g, ps.toList, x, y), z) else none
  | _, _, _ => none
 | a :: c => match trC P N a, trS P N c with
  | some x, some (l, r, z) => some (x :: l, r, z)
  | _, _ => none
 | [] => none
section main
variable {P : Program} {G : Glo}
def trR (P : Program) (fn : Func) : Option (List ACode × (Nat × Nat × List Nat × ACode × ACode) × List ACode × List RV) :=
 match fn.body with
 | some c => match trS P fn.ntmps (flatC c), fn.results.toList.mapM (trRV P) with
  | some (l, r, z), some rs => some (l, r, z, rs)
  | _, _ => none
 | none => none
structure Okr (P : Program) (f : FuncId) (fn : Func) (As : List (List Nat × ACode)) (id g : Nat) (ps : List Nat) (x y : ACode) (zs : List (List Nat × ACode)) (rs : List RV) : Prop where
 hf : P.funcs[f]? = some fn
 ht : trR P fn = some (As.map (·.2.bare), (id, g, ps, x.bare, y.bare), zs.map (·.2.bare), rs)
 hm : P.follows .mixedOrders = true
 hd : (As.all (fun p => drOk p.2) && drOk x && drOk y && zs.all (fun p => drOk p.2)) = true
end main
section eqs
variable {P : Program} {G : Glo} {N : Nat} {id g l : Nat} {ps : List Nat} {x y : ACode} {K : Env → Heap → Prop} {Qr : Exit → Env → Heap → Prop} {Q : AV → Heap → Prop} {ρ : Env} {h : Heap} {r : Loop}
@[push_cast] theorem rfK_eq : rfK P G N id g ps x y K Qr ρ h = rfV P G N id ps x y K Qr ρ h (lk ρ g) := rfl
@[push_cast] theorem wpS_nil : wpS P G N K Qr [] ρ h = K ρ h := by rw [wpS]
@[push_cast] theorem wpS_cons {p : List Nat × ACode} {rest : List (List Nat × ACode)} : wpS P G N K Qr (p :: rest) ρ h = wpc P G N p.2 (thn p.1 (wpS P G N K Qr rest) Qr) ρ h := by rw [wpS]
@[push_cast] theorem asgQ_n : asgQ P G N l r y Q .normal ρ h = (h l = some (lpB r) ∧ wpc P G N y (rndQ l r Q) ρ (upd h l (lpB (lpBusy r)))) := by rw [asgQ]
@[push_cast] theorem rndQ_n : rndQ l r Q .normal ρ h = (h l = some (lpB (lpBusy r)) ∧ Q (.bool true) (upd h l (lpB r))) := by rw [rndQ]
@[push_cast] theorem rndQ_r : rndQ l r Q .ret ρ h = (h l = some (lpB (lpBusy r)) ∧ Q (.bool false) (upd h l (lpB (lpEnds r (some .ret))))) := by rw [rndQ]
@[push_cast] theorem rndQ_e {i : Nat} : rndQ l r Q (.exit i) ρ h = (h l = some (lpB (lpBusy r)) ∧ Q (.bool false) (upd h l (lpB (lpEnds r (some (.exit i)))))) := by rw [rndQ]
end eqs
end Go.Ab
end
section
namespace Go.Sc
open Go.Ab
abbrev t0 : Operand := .tmp 0
abbrev t1 : Operand := .tmp 1
abbrev t2 : Operand := .tmp 2
abbrev t3 : Operand := .tmp 3
abbrev t4 : Operand := .tmp 4
abbrev t5 : Operand := .tmp 5
abbrev t6 : Operand := .tmp 6
abbrev t7 : Operand := .tmp 7
abbrev t8 : Operand := .tmp 8
abbrev t9 : Operand := .tmp 9
abbrev t10 : Operand := .tmp 10
abbrev t11 : Operand := .tmp 11
abbrev t12 : Operand := .tmp 12
abbrev t13 : Operand := .tmp 13
abbrev t14 : Operand := .tmp 14
abbrev t15 : Operand := .tmp 15
abbrev t16 : Operand := .tmp 16
abbrev t17 : Operand := .tmp 17
abbrev t18 : Operand := .tmp 18
abbrev t19 : Operand := .tmp 19
abbrev t20 : Operand := .tmp 20
abbrev t21 : Operand := .tmp 21
abbrev t22 : Operand := .tmp 22
abbrev t23 : Operand := .tmp 23
abbrev t24 : Operand := .tmp 24
abbrev t25 : Operand := .tmp 25
abbrev t26 : Operand := .tmp 26
abbrev t27 : Operand := .tmp 27
abbrev t28 : Operand := .tmp 28
abbrev t29 : Operand := .tmp 29
abbrev t30 : Operand := .tmp 30
abbrev t31 : Operand := .tmp 31
abbrev t32 : Operand := .tmp 32
abbrev t33 : Operand := .tmp 33
abbrev t34 : Operand := .tmp 34
abbrev t35 : Operand := .tmp 35
abbrev t36 : Operand := .tmp 36
abbrev t37 : Operand := .tmp 37
abbrev t38 : Operand := .tmp 38
abbrev t39 : Operand := .tmp 39
abbrev t40 : Operand := .tmp 40
abbrev t41 : Operand := .tmp 41
abbrev t42 : Operand := .tmp 42
abbrev t43 : Operand := .tmp 43
abbrev t44 : Operand := .tmp 44
abbrev t45 : Operand := .tmp 45
abbrev t46 : Operand := .tmp 46
abbrev t47 : Operand := .tmp 47
abbrev t48 : Operand := .tmp 48
abbrev t49 : Operand := .tmp 49
abbrev t50 : Operand := .tmp 50
abbrev t51 : Operand := .tmp 51
abbrev t52 : Operand := .tmp 52
abbrev t53 : Operand := .tmp 53
abbrev t54 : Operand := .tmp 54
abbrev t55 : Operand := .tmp 55
abbrev t56 : Operand := .tmp 56
abbrev t57 : Operand := .tmp 57
abbrev t58 : Operand := .tmp 58
abbrev t59 : Operand := .tmp 59
abbrev t60 : Operand := .tmp 60
abbrev t61 : Operand := .tmp 61
abbrev t62 : Operand := .tmp 62
abbrev t63 : Operand := .tmp 63
abbrev t64 : Operand := .tmp 64
abbrev t65 : Operand := .tmp 65
abbrev t66 : Operand := .tmp 66
abbrev t67 : Operand := .tmp 67
abbrev t68 : Operand := .tmp 68
abbrev t69 : Operand := .tmp 69
abbrev t70 : Operand := .tmp 70
abbrev t71 : Operand := .tmp 71
abbrev t72 : Operand := .tmp 72
abbrev t73 : Operand := .tmp 73
abbrev t74 : Operand := .tmp 74
abbrev t75 : Operand := .tmp 75
abbrev t76 : Operand := .tmp 76
abbrev t77 : Operand := .tmp 77
abbrev t78 : Operand := .tmp 78
abbrev t79 : Operand := .tmp 79
abbrev t80 : Operand := .tmp 80
abbrev t81 : Operand := .tmp 81
abbrev t82 : Operand := .tmp 82
abbrev t83 : Operand := .tmp 83
abbrev t84 : Operand := .tmp 84
abbrev t85 : Operand := .tmp 85
abbrev t86 : Operand := .tmp 86
abbrev t87 : Operand := .tmp 87
abbrev t88 : Operand := .tmp 88
abbrev t89 : Operand := .tmp 89
abbrev t90 : Operand := .tmp 90
abbrev t91 : Operand := .tmp 91
abbrev t92 : Operand := .tmp 92
abbrev t93 : Operand := .tmp 93
abbrev t94 : Operand := .tmp 94
abbrev t95 : Operand := .tmp 95
abbrev t96 : Operand := .tmp 96
abbrev t97 : Operand := .tmp 97
abbrev t98 : Operand := .tmp 98
abbrev t99 : Operand := .tmp 99
abbrev t100 : Operand := .tmp 100
abbrev t101 : Operand := .tmp 101
abbrev t102 : Operand := .tmp 102
abbrev t103 : Operand := .tmp 103
abbrev t104 : Operand := .tmp 104
abbrev t105 : Operand := .tmp 105
abbrev t106 : Operand := .tmp 106
abbrev t107 : Operand := .tmp 107
abbrev t108 : Operand := .tmp 108
abbrev t109 : Operand := .tmp 109
abbrev t110 : Operand := .tmp 110
abbrev t111 : Operand := .tmp 111
abbrev t112 : Operand := .tmp 112
abbrev t113 : Operand := .tmp 113
abbrev t114 : Operand := .tmp 114
abbrev t115 : Operand := .tmp 115
abbrev t116 : Operand := .tmp 116
abbrev t117 : Operand := .tmp 117
abbrev t118 : Operand := .tmp 118
abbrev t119 : Operand := .tmp 119
abbrev t120 : Operand := .tmp 120
abbrev t121 : Operand := .tmp 121
abbrev t122 : Operand := .tmp 122
abbrev t123 : Operand := .tmp 123
abbrev t124 : Operand := .tmp 124
abbrev t125 : Operand := .tmp 125
abbrev t126 : Operand := .tmp 126
abbrev t127 : Operand := .tmp 127
abbrev t128 : Operand := .tmp 128
abbrev t129 : Operand := .tmp 129
abbrev t130 : Operand := .tmp 130
abbrev t131 : Operand := .tmp 131
abbrev t132 : Operand := .tmp 132
abbrev t133 : Operand := .tmp 133
abbrev t134 : Operand := .tmp 134
abbrev t135 : Operand := .tmp 135
abbrev t136 : Operand := .tmp 136
abbrev kI (n : Int) : Operand := .const (.int .i64 n)
abbrev kU (n : Int) : Operand := .const (.int .u32 n)
abbrev kL (n : Int) : Operand := .const (.int .u64 n)
abbrev kY (n : Int) : Operand := .const (.int .u8 n)
abbrev kT : Operand := .const (.bool true)
abbrev kF : Operand := .const (.bool false)
abbrev kP : Operand := .const (.pointer none)
abbrev kS : Operand := .const (.slice none 0 0)
abbrev z4 : AV := .int .u32 0
abbrev zi : AV := .int .i64 0
abbrev zb : AV := .bool false
abbrev z1 : AV := .int .u8 0
abbrev Sq (k : List Nat) (a b : ACode) : ACode := .seq k a b
abbrev Cd (c : Operand) (a b : ACode) : ACode := .cond c a b
abbrev Bk (i : Nat) (a : ACode) : ACode := .block i a
abbrev Ro (l : List AOp) : ACode := .reg l
abbrev Dr (l : List AOp) (e : List (List Nat)) (o : List (Nat × List Nat)) : ACode := .dreg l e o
abbrev Mv (d : Nat) (x : Operand) : AOp := ⟨some d, none, .r (.mv x)⟩
abbrev Mvt (d g : Nat) (x : Operand) : AOp := ⟨some d, some (g, true), .r (.mv x)⟩
abbrev Mvf (d g : Nat) (x : Operand) : AOp := ⟨some d, some (g, false), .r (.mv x)⟩
abbrev Pk (d : Nat) (c a b : Operand) : AOp := ⟨some d, none, .r (.pick c a b)⟩
abbrev Pkt (d g : Nat) (c a b : Operand) : AOp := ⟨some d, some (g, true), .r (.pick c a b)⟩
abbrev Pkf (d g : Nat) (c a b : Operand) : AOp := ⟨some d, some (g, false), .r (.pick c a b)⟩
abbrev Bn (d : Nat) (o : BinOp) (x y : Operand) : AOp := ⟨some d, none, .r (.bin o x y)⟩
abbrev Bnt (d g : Nat) (o : BinOp) (x y : Operand) : AOp := ⟨some d, some (g, true), .r (.bin o x y)⟩
abbrev Bnf (d g : Nat) (o : BinOp) (x y : Operand) : AOp := ⟨some d, some (g, false), .r (.bin o x y)⟩
abbrev Ep (d : Nat) (n : Bool) (x y : Operand) : AOp := ⟨some d, none, .r (.eqp n x y)⟩
abbrev Un (d : Nat) (o : UnOp) (x : Operand) : AOp := ⟨some d, none, .r (.un o x)⟩
abbrev Unf (d g : Nat) (o : UnOp) (x : Operand) : AOp := ⟨some d, some (g, false), .r (.un o x)⟩
abbrev Cv (d : Nat) (k : IntKind) (x : Operand) : AOp := ⟨some d, none, .r (.conv k x)⟩
abbrev Fa (d : Nat) (n : Nat) (x : Operand) : AOp := ⟨some d, none, .r (.fad n x)⟩
abbrev Fat (d g : Nat) (n : Nat) (x : Operand) : AOp := ⟨some d, some (g, true), .r (.fad n x)⟩
abbrev Faf (d g : Nat) (n : Nat) (x : Operand) : AOp := ⟨some d, some (g, false), .r (.fad n x)⟩
abbrev Ix (d : Nat) (n : Nat) (x i : Operand) : AOp := ⟨some d, none, .r (.ixs n x i)⟩
abbrev Ixt (d g : Nat) (n : Nat) (x i : Operand) : AOp := ⟨some d, some (g, true), .r (.ixs n x i)⟩
abbrev Ixf (d g : Nat) (n : Nat) (x i : Operand) : AOp := ⟨some d, some (g, false), .r (.ixs n x i)⟩
abbrev Ld (d : Nat) (n : Option Nat) (x : Operand) : AOp := ⟨some d, none, .r (.ld n x)⟩
abbrev Ldt (d g : Nat) (n : Option Nat) (x : Operand) : AOp := ⟨some d, some (g, true), .r (.ld n x)⟩
abbrev Ldf (d g : Nat) (n : Option Nat) (x : Operand) : AOp := ⟨some d, some (g, false), .r (.ld n x)⟩
abbrev Nc (d : Nat) (x : Operand) : AOp := ⟨some d, none, .r (.nck x)⟩
abbrev Nct (d g : Nat) (x : Operand) : AOp := ⟨some d, some (g, true), .r (.nck x)⟩
abbrev Ncf (d g : Nat) (x : Operand) : AOp := ⟨some d, some (g, false), .r (.nck x)⟩
abbrev Ex (d : Nat) (i : Nat) (x : Operand) : AOp := ⟨some d, none, .r (.ext i x)⟩
abbrev Ln (d : Nat) (x : Operand) : AOp := ⟨some d, none, .r (.len x)⟩
abbrev Lnf (d g : Nat) (x : Operand) : AOp := ⟨some d, some (g, false), .r (.len x)⟩
abbrev As (d : Nat) (x : Operand) : AOp := ⟨some d, none, .e (.asg x)⟩
abbrev Ca (d : Nat) (f : Nat) (l : List Operand) : AOp := ⟨some d, none, .e (.call f l)⟩
abbrev Cat (d g : Nat) (f : Nat) (l : List Operand) : AOp := ⟨some d, some (g, true), .e (.call f l)⟩
abbrev Caf (d g : Nat) (f : Nat) (l : List Operand) : AOp := ⟨some d, some (g, false), .e (.call f l)⟩
abbrev Sxn (n : Nat) (a v : Operand) : AOp := ⟨none, none, .e (.st n a v)⟩
abbrev Br (d : Nat) (x : Operand) : AOp := ⟨some d, none, .e (.bxr x)⟩
abbrev Al (d : Nat) (z : List AV) : AOp := ⟨some d, none, .e (.alc z)⟩
abbrev Ap (d : Nat) (s b : Nat) (x y : Operand) : AOp := ⟨some d, none, .e (.app s b x y)⟩
end Go.Sc
end
section
namespace Go.Ab
def fld (w : BitVec 32) (lo k : Nat) : Nat := w.toNat / 2 ^ lo % 2 ^ k
theorem fld_lt (w : BitVec 32) (lo k : Nat) : fld w lo k < 2 ^ k := Nat.mod_lt _ (Nat.two_pow_pos k)
theorem shl_shr_fld (w : BitVec 32) (hi lo : Nat) (h1 : lo ≤ hi) (h2 : hi ≤ 31) : ((w <<< (31 - hi)) >>> (31 - hi + lo)).toNat = fld w lo (hi - lo + 1) := by
 rw [BitVec.toNat_ushiftRight, BitVec.toNat_shiftLeft, Nat.shiftRight_eq_div_pow, Nat.shiftLeft_eq]
 unfold fld
 have e1 : 2 ^ 32 = 2 ^ (hi + 1) * 2 ^ (31 - hi) := by rw [← Nat.pow_add]; congr 1; omega
 rw [e1, Nat.mul_mod_mul_right, Nat.pow_add 2 (31 - hi) lo, ← Nat.div_div_eq_div_mul, Nat.mul_div_cancel _ (Nat.two_pow_pos _)]
 have e2 : 2 ^ (hi + 1) = 2 ^ lo * 2 ^ (hi - lo + 1) := by rw [← Nat.pow_add]; congr 1; omega
 rw [e2, Nat.mod_mul_right_div_self]
theorem and_mod (w : BitVec 32) (k : Nat) (hk : k ≤ 32) : (w &&& BitVec.ofNat 32 (2 ^ k - 1)).toNat = w.toNat % 2 ^ k := by
 have h : 2 ^ k - 1 < 2 ^ 32 := by have := Nat.pow_le_pow_right (show 0 < 2 by omega) hk; have := Nat.two_pow_pos k; omega
 rw [BitVec.toNat_and, BitVec.toNat_ofNat, Nat.mod_eq_of_lt h, Nat.and_two_pow_sub_one_eq_mod]
theorem and_hi (x a b k : Nat) (hb : b < 2 ^ k) : x &&& (2 ^ k * a + b) = 2 ^ k * (x / 2 ^ k &&& a) + (x % 2 ^ k &&& b) := by
 apply Nat.eq_of_testBit_eq
 intro i
 have hb' : (x % 2 ^ k &&& b) < 2 ^ k := Nat.lt_of_le_of_lt Nat.and_le_right hb
 rw [Nat.testBit_and, Nat.testBit_two_pow_mul_add _ hb, Nat.testBit_two_pow_mul_add _ hb']
 split
 ·rename_i hi
  rw [Nat.testBit_and, Nat.testBit_mod_two_pow]
  simp [hi]
 ·rename_i hi
  rw [Nat.testBit_and, Nat.testBit_div_two_pow]
  congr 2; omega
theorem mask7 (w : BitVec 32) : (w &&& 0x7f#32).toNat = fld w 0 7 := by
 have := and_mod w 7 (by omega)
 simpa [fld] using this
structure IIn where
 op : Int
 rd : Int
 rs1 : Int
 rs2 : Int
 imm : BitVec 32
 csr : Int
 deriving DecidableEq
def IIn.zero : IIn := ⟨0, 0, 0, 0, 0, 0⟩
def IIn.cells (i : IIn) : List AV := [.int .i64 i.op, .int .i64 i.rd, .int .i64 i.rs1, .int .i64 i.rs2, .int .u32 (i.imm.toNat : Int), .int .i64 i.csr]
section
variable (i : IIn)
@[push_cast] theorem IIn.len : i.cells.length = 6 := rfl
@[push_cast] theorem IIn.c0 : i.cells[0]? = some (.int .i64 i.op) := rfl
@[push_cast] theorem IIn.c1 : i.cells[1]? = some (.int .i64 i.rd) := rfl
@[push_cast] theorem IIn.c2 : i.cells[2]? = some (.int .i64 i.rs1) := rfl
@[push_cast] theorem IIn.c3 : i.cells[3]? = some (.int .i64 i.rs2) := rfl
@[push_cast] theorem IIn.c4 : i.cells[4]? = some (.int .u32 (i.imm.toNat : Int)) := rfl
@[push_cast] theorem IIn.c5 : i.cells[5]? = some (.int .i64 i.csr) := rfl
@[push_cast] theorem IIn.pall : partOf i.cells 0 (some 6) = some (.agg i.cells) := rfl
end
def immK (f3 f7 : Nat) : Nat := if f3 = 0 then 19 else if f3 = 2 then 20 else if f3 = 3 then 21 else if f3 = 4 then 22 else if f3 = 6 then 23 else if f3 = 7 then 24 else if f3 = 1 then (if f7 = 0 then 25 else 0) else if f7 = 0 then 26 else if f7 = 32 then 27 else 0
def regK (f3 f7 : Nat) : Nat := if f7 = 0 then [28, 30, 31, 32, 33, 34, 36, 37].getD f3 0 else if f7 = 1 then 50 + f3 else if f7 = 32 then (if f3 = 0 then 29 else if f3 = 5 then 35 else 0) else 0
def sysK (f3 : Nat) (w : Nat) : Nat := if f3 = 1 ∨ f3 = 2 ∨ f3 = 3 then 41 + f3 else if f3 = 5 ∨ f3 = 6 ∨ f3 = 7 then 40 + f3 else if w = 0x73 then 40 else if w = 0x100073 then 41 else if w = 0x30200073 then 48 else if w = 0x10500073 then 49 else 0
def branchK (f3 : Nat) : Nat := if f3 = 0 ∨ f3 = 1 then 5 + f3 else if f3 = 4 ∨ f3 = 5 ∨ f3 = 6 ∨ f3 = 7 then 3 + f3 else 0
def loadK (f3 : Nat) : Nat := if f3 = 0 ∨ f3 = 1 ∨ f3 = 2 then 11 + f3 else if f3 = 4 ∨ f3 = 5 then 10 + f3 else 0
def kindK (w : BitVec 32) : Nat :=
 let o := fld w 0 7; let f3 := fld w 12 3; let f7 := fld w 25 7
 if o = 0x37 then 1 else if o = 0x17 then 2 else if o = 0x6f then 3 else if o = 0x67 then (if f3 = 0 then 4 else 0) else if o = 0x63 then branchK f3 else if o = 0x03 then loadK f3
 else if o = 0x23 then (if f3 < 3 then 16 + f3 else 0) else if o = 0x13 then immK f3 f7 else if o = 0x33 then regK f3 f7 else if o = 0x0f then (if f3 < 2 then 38 + f3 else 0) else if o = 0x73 then sysK f3 w.toNat else 0
end Go.Ab
end
section
namespace Go.Ab
@[push_cast] theorem bindG_ite {c : Prop} [Decidable c] {v : AV} {K : AV → Prop} : bindG true (if c then some v else none) K = (c ∧ K v) := by
 by_cases hc : c <;> simp [bindG, hc]
attribute [push_cast] Bool.not_eq_true' Bool.not_eq_false'
structure IOp where
 code : Int
 a : Int
 b : Int
 imm : BitVec 32
 x : Int
 y : Int
 deriving DecidableEq
def IOp.zero : IOp := ⟨0, 0, 0, 0, 0, 0⟩
def IOp.cells (o : IOp) : List AV := [.int .i64 o.code, .int .i64 o.a, .int .i64 o.b, .int .u32 (o.imm.toNat : Int), .int .i64 o.x, .int .i64 o.y]
structure IVl where
 reg : Int
 val : Int
 deriving DecidableEq
def IVl.zero : IVl := ⟨0, 0⟩
def IVl.cells (v : IVl) : List AV := [.int .i64 v.reg, .int .i64 v.val]
abbrev vls (l : List IVl) : AV := .ro (l.flatMap IVl.cells) l.length
structure IEx where
 done : Int
 pc : BitVec 32
 to : Int
 why : Int
 map : List IVl
 deriving DecidableEq
def IEx.zero : IEx := ⟨0, 0, 0, 0, []⟩
def IEx.cells (e : IEx) : List AV := [.int .i64 e.done, .int .u32 (e.pc.toNat : Int), .int .i64 e.to, .int .i64 e.why, vls e.map]
abbrev ops (l : List IOp) : AV := .ro (l.flatMap IOp.cells) l.length
abbrev exs (l : List IEx) : AV := .ro (l.flatMap IEx.cells) l.length
structure IBk where
 pcs : List (BitVec 32)
 ops : List IOp
 exits : List IEx
 last : Int
 deriving DecidableEq
def IBk.cells (b : IBk) : List AV := [.ro (wds b.pcs) b.pcs.length, Ab.ops b.ops, exs b.exits, .int .i64 b.last]
@[push_cast] theorem IOp.len (o : IOp) : o.cells.length = 6 := rfl
@[push_cast] theorem IVl.len (v : IVl) : v.cells.length = 2 := rfl
@[push_cast] theorem IEx.len (e : IEx) : e.cells.length = 5 := rfl
@[push_cast] theorem IBk.len (b : IBk) : b.cells.length = 4 := rfl
section
variable (o : IOp) (v : IVl) (e : IEx) (b : IBk)
@[push_cast] theorem IOp.c0 : o.cells[0]? = some (.int .i64 o.code) := rfl
@[push_cast] theorem IOp.c1 : o.cells[1]? = some (.int .i64 o.a) := rfl
@[push_cast] theorem IOp.c2 : o.cells[2]? = some (.int .i64 o.b) := rfl
@[push_cast] theorem IOp.c3 : o.cells[3]? = some (.int .u32 (o.imm.toNat : Int)) := rfl
@[push_cast] theorem IOp.c4 : o.cells[4]? = some (.int .i64 o.x) := rfl
@[push_cast] theorem IOp.c5 : o.cells[5]? = some (.int .i64 o.y) := rfl
@[push_cast] theorem IOp.s1 (x : Int) : o.cells.set 1 (.int .i64 x) = IOp.cells { o with a := x } := rfl
@[push_cast] theorem IOp.s2 (x : Int) : o.cells.set 2 (.int .i64 x) = IOp.cells { o with b := x } := rfl
@[push_cast] theorem IOp.s4 (x : Int) : o.cells.set 4 (.int .i64 x) = IOp.cells { o with x := x } := rfl
@[push_cast] theorem IOp.s5 (x : Int) : o.cells.set 5 (.int .i64 x) = IOp.cells { o with y := x } := rfl
@[push_cast] theorem IVl.c0 : v.cells[0]? = some (.int .i64 v.reg) := rfl
@[push_cast] theorem IVl.c1 : v.cells[1]? = some (.int .i64 v.val) := rfl
@[push_cast] theorem IEx.c0 : e.cells[0]? = some (.int .i64 e.done) := rfl
@[push_cast] theorem IEx.c1 : e.cells[1]? = some (.int .u32 (e.pc.toNat : Int)) := rfl
@[push_cast] theorem IEx.c2 : e.cells[2]? = some (.int .i64 e.to) := rfl
@[push_cast] theorem IEx.c3 : e.cells[3]? = some (.int .i64 e.why) := rfl
@[push_cast] theorem IEx.c4 : e.cells[4]? = some (vls e.map) := rfl
@[push_cast] theorem IBk.c0 : b.cells[0]? = some (.ro (wds b.pcs) b.pcs.length) := rfl
@[push_cast] theorem IBk.c1 : b.cells[1]? = some (Ab.ops b.ops) := rfl
@[push_cast] theorem IBk.c2 : b.cells[2]? = some (exs b.exits) := rfl
@[push_cast] theorem IBk.c3 : b.cells[3]? = some (.int .i64 b.last) := rfl
@[push_cast] theorem IOp.sp (a b c d e f : AV) : splice [a, b, c, d, e, f] 0 o.cells = o.cells := rfl
@[push_cast] theorem IVl.sp (a b : AV) : splice [a, b] 0 v.cells = v.cells := rfl
@[push_cast] theorem IEx.sp (a b c d f : AV) : splice [a, b, c, d, f] 0 e.cells = e.cells := rfl
@[push_cast] theorem IBk.sp (a c d f : AV) : splice [a, c, d, f] 0 b.cells = b.cells := rfl
@[push_cast] theorem IOp.pall : partOf o.cells 0 (some 6) = some (.agg o.cells) := rfl
@[push_cast] theorem IVl.pall : partOf v.cells 0 (some 2) = some (.agg v.cells) := rfl
@[push_cast] theorem IEx.pall : partOf e.cells 0 (some 5) = some (.agg e.cells) := rfl
@[push_cast] theorem IBk.pall : partOf b.cells 0 (some 4) = some (.agg b.cells) := rfl
end
theorem flat_getD {α : Type} (f : α → List AV) (n : Nat) (l : List α) (d : α) (hf : ∀ x, (f x).length = n) (k j : Nat) (hj : j < n) : (l.flatMap f)[k * n + j]? = if k < l.length then (f (l.getD k d))[j]? else none := by
 split
 ·rename_i hk
  have h1 := flat_drop f n l (fun x _ => hf x) k (by omega)
  rw [List.drop_eq_getElem_cons hk, List.flatMap_cons] at h1
  rw [← List.getElem?_drop, h1, List.getElem?_append_left (by rw [hf]; exact hj)]
  simp [hk]
 ·rename_i hk
  refine List.getElem?_eq_none ?_
  rw [flat_len f n l fun x _ => hf x]
  have := Nat.mul_le_mul_right n (Nat.not_lt.1 hk)
  omega
theorem flat_partD {α : Type} (f : α → List AV) (n : Nat) (l : List α) (d : α) (hf : ∀ x, (f x).length = n) (hn : 0 < n) (k : Nat) : partOf (l.flatMap f) (k * n) (some n) = if k < l.length then some (.agg (f (l.getD k d))) else none := by
 split
 ·rename_i hk
  rw [flat_part f n l (fun x _ => hf x) k hk]
  simp [hk]
 ·rename_i hk
  rw [partOf_some, if_neg]
  rw [flat_len f n l fun x _ => hf x]
  have := Nat.mul_le_mul_right n (Nat.not_lt.1 hk)
  omega
section
variable (l : List IOp) (m : List IVl) (es : List IEx) (k : Nat)
@[push_cast] theorem ops_0 : (l.flatMap IOp.cells)[k * 6]? = if k < l.length then some (.int .i64 (l.getD k IOp.zero).code) else none := by rw [← Nat.add_zero (k * 6), flat_getD _ _ _ IOp.zero IOp.len _ _ (by omega)]; rfl
@[push_cast] theorem ops_1 : (l.flatMap IOp.cells)[k * 6 + 1]? = if k < l.length then some (.int .i64 (l.getD k IOp.zero).a) else none := by rw [flat_getD _ _ _ IOp.zero IOp.len _ _ (by omega)]; rfl
@[push_cast] theorem ops_2 : (l.flatMap IOp.cells)[k * 6 + 2]? = if k < l.length then some (.int .i64 (l.getD k IOp.zero).b) else none := by rw [flat_getD _ _ _ IOp.zero IOp.len _ _ (by omega)]; rfl
@[push_cast] theorem ops_3 : (l.flatMap IOp.cells)[k * 6 + 3]? = if k < l.length then some (.int .u32 ((l.getD k IOp.zero).imm.toNat : Int)) else none := by rw [flat_getD _ _ _ IOp.zero IOp.len _ _ (by omega)]; rfl
@[push_cast] theorem ops_4 : (l.flatMap IOp.cells)[k * 6 + 4]? = if k < l.length then some (.int .i64 (l.getD k IOp.zero).x) else none := by rw [flat_getD _ _ _ IOp.zero IOp.len _ _ (by omega)]; rfl
@[push_cast] theorem ops_5 : (l.flatMap IOp.cells)[k * 6 + 5]? = if k < l.length then some (.int .i64 (l.getD k IOp.zero).y) else none := by rw [flat_getD _ _ _ IOp.zero IOp.len _ _ (by omega)]; rfl
@[push_cast] theorem ops_p : partOf (l.flatMap IOp.cells) (k * 6) (some 6) = if k < l.length then some (.agg (l.getD k IOp.zero).cells) else none := flat_partD _ _ _ IOp.zero IOp.len (by omega) _
@[push_cast] theorem vls_0 : (m.flatMap IVl.cells)[k * 2]? = if k < m.length then some (.int .i64 (m.getD k IVl.zero).reg) else none := by rw [← Nat.add_zero (k * 2), flat_getD _ _ _ IVl.zero IVl.len _ _ (by omega)]; rfl
@[push_cast] theorem vls_1 : (m.flatMap IVl.cells)[k * 2 + 1]? = if k < m.length then some (.int .i64 (m.getD k IVl.zero).val) else none := by rw [flat_getD _ _ _ IVl.zero IVl.len _ _ (by omega)]; rfl
@[push_cast] theorem vls_p : partOf (m.flatMap IVl.cells) (k * 2) (some 2) = if k < m.length then some (.agg (m.getD k IVl.zero).cells) else none := flat_partD _ _ _ IVl.zero IVl.len (by omega) _
@[push_cast] theorem exs_4 : (es.flatMap IEx.cells)[k * 5 + 4]? = if k < es.length then some (vls (es.getD k IEx.zero).map) else none := by rw [flat_getD _ _ _ IEx.zero IEx.len _ _ (by omega)]; rfl
@[push_cast] theorem exs_p : partOf (es.flatMap IEx.cells) (k * 5) (some 5) = if k < es.length then some (.agg (es.getD k IEx.zero).cells) else none := flat_partD _ _ _ IEx.zero IEx.len (by omega) _
end
def allN (n : Nat) (p : Nat → Bool) : Bool := (List.range n).all p
def IBk.op (b : IBk) (k : Nat) : IOp := b.ops.getD k IOp.zero
def IBk.ex (b : IBk) (k : Nat) : IEx := b.exits.getD k IEx.zero
def IEx.vl (e : IEx) (k : Nat) : IVl := e.map.getD k IVl.zero
def IBk.val (b : IBk) (n ahead : Int) : Bool := decide (0 ≤ n) && decide (n < ahead) && decide (n < b.ops.length) && decide (1 ≤ (b.op n.toNat).code) && decide ((b.op n.toNat).code ≤ 4)
def IBk.exit (b : IBk) (n ahead : Int) : Bool := decide (0 ≤ n) && decide (n < b.exits.length) && (decide ((b.ex n.toNat).to = -1) || b.val (b.ex n.toNat).to ahead) && allN (b.ex n.toNat).map.length fun i => b.val ((b.ex n.toNat).vl i).val ahead
def loadsN (n : Int) : Int := if n = 11 ∨ n = 14 then 1 else if n = 12 ∨ n = 15 then 2 else if n = 13 then 4 else 0
def storesN (n : Int) : Int := if n = 16 then 1 else if n = 17 then 2 else if n = 18 then 4 else 0
def reckonsN (n : Int) : Bool := decide (19 ≤ n) && decide (n ≤ 37) || decide (50 ≤ n) && decide (n ≤ 57)
def IBk.opR (b : IBk) (k : Nat) : Bool :=
 let o := b.op k
 let n : Int := o.imm.toNat
 if o.code = 1 then decide (1 ≤ n) && decide (n ≤ 31) && decide (o.x = 0) && decide (o.y = 0) && decide (o.a = 0) && decide (o.b = 0)
 else if o.code = 2 then decide (o.x = 0) && decide (o.y = 0) && decide (o.a = 0) && decide (o.b = 0)
 else if o.code = 3 then reckonsN n && decide (o.x = 0) && decide (o.y = 0) && b.val o.a k && b.val o.b k
 else if o.code = 4 then decide (0 < loadsN n) && decide (o.y = 0) && decide (o.b = 0) && b.val o.a k && b.exit o.x k
 else if o.code = 5 then decide (0 < storesN n) && b.val o.a k && b.val o.b k && b.exit o.x k && b.exit o.y k
 else if o.code = 6 then decide (5 ≤ n) && decide (n ≤ 10) && decide (o.y = 0) && b.val o.a k && b.val o.b k && b.exit o.x k
 else false
def IBk.leaves (b : IBk) (n : Nat) : Bool :=
 let e := b.ex n
 b.exit n b.ops.length && decide (0 ≤ e.done) && decide (e.done ≤ b.pcs.length) && decide (e.pc.toNat % 4 = 0) && decide (1 ≤ e.why) && decide (e.why ≤ 4) &&
  allN e.map.length fun i => decide (1 ≤ (e.vl i).reg) && decide ((e.vl i).reg ≤ 31) && (decide (i = 0) || decide ((e.vl (i - 1)).reg < (e.vl i).reg))
def pcR (l : List (BitVec 32)) (i : Nat) : Bool := decide ((l.getD i 0#32).toNat % 4 = 0)
def IBk.right (b : IBk) : Bool := allN b.ops.length b.opR && allN b.exits.length b.leaves && allN b.pcs.length (pcR b.pcs) && decide (0 < b.pcs.length) && b.exit b.last b.ops.length
end Go.Ab
end
