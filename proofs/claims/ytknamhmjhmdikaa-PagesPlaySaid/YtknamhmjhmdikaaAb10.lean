/- A frame for walks over what values stand for, part Ab10. -/
import Derived.Test.YtknamhmjhmdikaaAb9
namespace Go.Ab
/-! A region whose order is open: one order is walked, the others come to the same. -/
def RK.ops : RK → List Operand
  | .mv x | .un _ x | .conv _ x | .bstr x | .fad _ x | .fld _ _ x | .ld _ x | .nck x | .ext _ x | .len x | .lens x | .lenm x | .eqm _ x => [x]
  | .pick a b c => [a, b, c]
  | .bin _ x y | .eqb _ x y | .eqp _ x y | .eqa _ _ x y | .ixs _ x y | .ixa _ _ x y | .ixv _ _ _ x y | .ixb x y | .mm _ x y | .lkp _ _ _ x y => [x, y]
  | .bld _ ps => ps.map (·.2.2)
  | .mkf _ a b => a ++ b
  | .sls _ x lo hi | .sla _ _ x lo hi | .slb x lo hi => [x] ++ lo.toList ++ hi.toList
  | .sls3 _ x lo hi mx => [x, hi, mx] ++ lo.toList
def EK.ops : EK → List Operand
  | .asg x | .box x | .bxr x | .nilq _ x => [x]
  | .alc _ | .mkm => []
  | .bsl _ _ ps | .bsr _ _ ps => ps.map (·.2.2)
  | .st _ a v => [a, v]
  | .app _ _ x y | .mks _ _ x y | .cpy _ x y | .dlt _ x y => [x, y]
  | .mup _ x i v => [x, i, v]
  | .call _ args => args
  | .callv x args => x :: args
def slot : Operand → List Nat
  | .tmp t => [t]
  | _ => []
def AOp.isE (o : AOp) : Bool := match o.k with
  | .e _ => true
  | .r _ => false
def AOp.reads (o : AOp) : List Nat := ((match o.k with | .r k => k.ops | .e k => k.ops).flatMap slot) ++ (o.g.map (·.1)).toList
section
variable {P : Program} {G : Glo}
theorem afill_congr {x y : Operand → AV} : ∀ (ps : List (Nat × Nat × Operand)) (cells : List AV), (∀ p ∈ ps, x p.2.2 = y p.2.2) → afill x cells ps = afill y cells ps := by
  intro ps
  induction ps with
  | nil => intro cells _; rfl
  | cons p r ih =>
    intro cells h
    obtain ⟨off, n, o⟩ := p
    have e : x o = y o := h (off, n, o) (by simp)
    simp only [afill]
    rw [e]
    split
    · rw [ih _ fun p hp => h p (by simp [hp])]
    · rfl
theorem abound_congr {x y : Operand → AV} {a b : Nat} {o : Option Operand} (h : ∀ z ∈ o.toList, x z = y z) : abound x a b o = abound y a b o := by
  cases o with
  | none => rfl
  | some z => simp only [abound, h z (by simp)]
theorem evR_congr {k : RK} {ρ ρ' : Env} {h : Heap} (hx : ∀ x ∈ k.ops, xv G ρ x = xv G ρ' x) : evR G k ρ h = evR G k ρ' h := by
  cases k <;> simp only [RK.ops] at hx <;> simp only [evR]
  case bld z ps => rw [afill_congr ps z fun p hp => hx _ (List.mem_map.2 ⟨p, hp, rfl⟩)]
  case mkf f a b =>
    rw [List.map_congr_left (l := a) fun x h => hx x (by simp [h]), List.map_congr_left (l := b) fun x h => hx x (by simp [h])]
  case sls sz x lo hi =>
    rw [hx x (by simp)]
    simp only [abound_congr (x := xv G ρ) (y := xv G ρ') (o := hi) (fun z hz => hx z (by simp at hz; simp [hz])),
      abound_congr (x := xv G ρ) (y := xv G ρ') (o := lo) (fun z hz => hx z (by simp at hz; simp [hz]))]
  case sla n sz x lo hi =>
    rw [hx x (by simp)]
    simp only [abound_congr (x := xv G ρ) (y := xv G ρ') (o := hi) (fun z hz => hx z (by simp at hz; simp [hz])),
      abound_congr (x := xv G ρ) (y := xv G ρ') (o := lo) (fun z hz => hx z (by simp at hz; simp [hz]))]
  case slb x lo hi =>
    rw [hx x (by simp)]
    simp only [abound_congr (x := xv G ρ) (y := xv G ρ') (o := hi) (fun z hz => hx z (by simp at hz; simp [hz])),
      abound_congr (x := xv G ρ) (y := xv G ρ') (o := lo) (fun z hz => hx z (by simp at hz; simp [hz]))]
  case sls3 sz x lo hi mx =>
    rw [hx x (by simp)]
    simp only [abound_congr (x := xv G ρ) (y := xv G ρ') (o := some hi) (fun z hz => hx z (by simp at hz; simp [hz])),
      abound_congr (x := xv G ρ) (y := xv G ρ') (o := some mx) (fun z hz => hx z (by simp at hz; simp [hz])),
      abound_congr (x := xv G ρ) (y := xv G ρ') (o := lo) (fun z hz => hx z (by simp at hz; simp [hz]))]
  case pick a b c => rw [hx a (by simp), hx b (by simp), hx c (by simp)]
  case bin op x y => rw [hx x (by simp), hx y (by simp)]
  case eqb n x y => rw [hx x (by simp), hx y (by simp)]
  case eqp n x y => rw [hx x (by simp), hx y (by simp)]
  case eqa n ks x y => rw [hx x (by simp), hx y (by simp)]
  case ixs sz x y => rw [hx x (by simp), hx y (by simp)]
  case ixa n sz x y => rw [hx x (by simp), hx y (by simp)]
  case ixv n sz m x y => rw [hx x (by simp), hx y (by simp)]
  case ixb x y => rw [hx x (by simp), hx y (by simp)]
  case mm b x y => rw [hx x (by simp), hx y (by simp)]
  case lkp k z ok x y => rw [hx x (by simp), hx y (by simp)]
  all_goals rw [hx _ (by simp)]
theorem stE_congr {k : EK} {ρ ρ' : Env} {h : Heap} {Q : AV → Heap → Prop} (hx : ∀ x ∈ k.ops, xv G ρ x = xv G ρ' x) : stE P G k ρ h Q = stE P G k ρ' h Q := by
  cases k <;> simp only [EK.ops] at hx <;> simp only [stE]
  case bsl len cells ps => rw [afill_congr ps cells fun p hp => hx _ (List.mem_map.2 ⟨p, hp, rfl⟩)]
  case bsr len cells ps => rw [afill_congr ps cells fun p hp => hx _ (List.mem_map.2 ⟨p, hp, rfl⟩)]
  case call f args => rw [List.map_congr_left (l := args) fun x h => hx x h]
  case callv x args => rw [hx x (by simp), List.map_congr_left (l := args) fun y h => hx y (by simp [h])]
  case st n a v => rw [hx a (by simp), hx v (by simp)]
  case app sz b x y => rw [hx x (by simp), hx y (by simp)]
  case mks b z x y => rw [hx x (by simp), hx y (by simp)]
  case cpy sz x y => rw [hx x (by simp), hx y (by simp)]
  case dlt k x y => rw [hx x (by simp), hx y (by simp)]
  case mup k x i v => rw [hx x (by simp), hx i (by simp), hx v (by simp)]
  all_goals rw [hx _ (by simp)]
theorem xv_congr {ρ ρ' : Env} (x : Operand) (h : ∀ s ∈ slot x, lk ρ s = lk ρ' s) : xv G ρ x = xv G ρ' x := by
  cases x with
  | tmp t => exact h t (by simp [slot])
  | const v => rfl
  | global g => rfl
  | func f => rfl
theorem lk_keep_mem {ks : List Nat} {ρ : Env} {s : Nat} (hs : s ∈ ks) : lk (keep ks ρ) s = lk ρ s := by
  induction ks with
  | nil => simp at hs
  | cons k ks ih =>
    simp only [keep, List.map_cons, lk]
    by_cases e : s = k
    · subst e; simp
    · have hb : (s == k) = false := by simpa using e
      rw [hb]
      exact ih (by simpa [e] using hs)
/-- What a looking operation told before still holds. -/
def pend (G : Glo) (o : AOp) (ρ : Env) (h : Heap) : Prop :=
  match o.k, o.d with
  | .r k, some d => gd o.g ρ (evR G k ρ h = some (lk ρ d)) (lk ρ d = .tup [])
  | _, _ => False
def stb (G : Glo) (ops : List AOp) (ρ : Env) (h : Heap) : List Nat → Prop
  | [] => True
  | j :: r => (match ops[j]? with
    | some o => pend G o ρ h
    | none => False) ∧ stb G ops ρ h r
def dwp (P : Program) (G : Glo) (ops : List AOp) : List (Nat × List Nat) → Env → Heap → (Env → Heap → Prop) → Prop
  | [], ρ, h, Q => Q ρ h
  | (i, fl) :: rest, ρ, h, Q => match ops[i]? with
    | none => False
    | some o => gd o.g ρ
        (match o.k with
          | .r k => match evR G k ρ h with
            | some v => dwp P G ops rest (put o.d v ρ) h Q
            | none => False
          | .e k => stE P G k ρ h fun v h' => stb G ops ρ h' fl ∧ dwp P G ops rest (put o.d v ρ) h' Q)
        (dwp P G ops rest (put o.d (.tup []) ρ) h Q)
/-- Can one operation be come to from another one, along the edges? -/
inductive Reach (es : List (List Nat)) (i : Nat) : Nat → Prop
  | one {x : Nat} (h : i ∈ es.getD x []) : Reach es i x
  | step {x y : Nat} (h : y ∈ es.getD x []) (hr : Reach es i y) : Reach es i x
theorem Reach.closed {es : List (List Nat)} {T : Nat → Prop} (hT : ∀ x, T x → ∀ y ∈ es.getD x [], T y) {i x : Nat} (hr : Reach es i x) (hx : ∀ y ∈ es.getD x [], T y) : T i := by
  induction hr with
  | one h => exact hx _ h
  | step h _ ih => exact ih (hT _ (hx _ h))
/-- What two operations, one behind the other in the order, must meet. -/
structure PairOK (ops : List AOp) (es : List (List Nat)) (a b : Nat × List Nat) : Prop where
  ne : a.1 ≠ b.1
  behind : (ops.getD a.1 default).isE = true → Reach es a.1 b.1
  floats : (ops.getD a.1 default).isE = false → (ops.getD b.1 default).isE = true → Reach es a.1 b.1 ∨ a.1 ∈ b.2
  anti : ∀ s, (ops.getD b.1 default).d = some s → s ∈ (ops.getD a.1 default).reads → (ops.getD b.1 default).isE = true ∧ Reach es a.1 b.1
  flow : ∀ s, (ops.getD a.1 default).d = some s → s ∈ (ops.getD b.1 default).reads → Reach es a.1 b.1
  out : ∀ s, (ops.getD a.1 default).d = some s → (ops.getD b.1 default).d = some s → (ops.getD a.1 default).isE = true ∧ (ops.getD b.1 default).isE = true
def desc (es : List (List Nat)) (i : Nat) (rest : List (Nat × List Nat)) : List Nat :=
  rest.foldl (fun acc x => if (es.getD x.1 []).any fun y => acc.contains y then x.1 :: acc else acc) [i]
def chk (ops : List AOp) (es : List (List Nat)) : List (Nat × List Nat) → Bool
  | [] => true
  | a :: rest =>
    let D := desc es a.1 rest
    let oa := ops.getD a.1 default
    (rest.all fun b =>
      let ob := ops.getD b.1 default
      let r := D.contains b.1
      a.1 != b.1 && (!oa.isE || r) && (oa.isE || !ob.isE || r || b.2.contains a.1) &&
      (match ob.d with | some s => !oa.reads.contains s || (ob.isE && r) | none => true) &&
      (match oa.d with | some s => !ob.reads.contains s || r | none => true) &&
      (match oa.d with | some _ => !(oa.d == ob.d) || (oa.isE && ob.isE) | none => true)) &&
    (oa.isE || (match oa.d with | some s => !oa.reads.contains s | none => false)) && chk ops es rest
/-- Each operation stands behind those that its edges name. -/
def lin (es : List (List Nat)) : List Nat → List (Nat × List Nat) → Bool
  | _, [] => true
  | done, a :: rest => (es.getD a.1 []).all (fun y => done.contains y) && lin es (a.1 :: done) rest
theorem desc_reach {es : List (List Nat)} {i : Nat} {rest : List (Nat × List Nat)} {x : Nat} (hx : x ∈ desc es i rest) : x = i ∨ Reach es i x := by
  have key : ∀ (l : List (Nat × List Nat)) (acc : List Nat), (∀ x ∈ acc, x = i ∨ Reach es i x) →
      ∀ x ∈ l.foldl (fun acc x => if (es.getD x.1 []).any fun y => acc.contains y then x.1 :: acc else acc) acc, x = i ∨ Reach es i x := by
    intro l
    induction l with
    | nil => intro acc h x hx; exact h x hx
    | cons a r ih =>
      intro acc h x hx
      simp only [List.foldl_cons] at hx
      refine ih _ ?_ x hx
      intro y hy
      split at hy
      · rename_i hany
        rcases List.mem_cons.1 hy with rfl | hy
        · obtain ⟨z, hz, hc⟩ := List.any_eq_true.1 hany
          rcases h z (by simpa using hc) with rfl | hr
          · exact .inr (.one hz)
          · exact .inr (.step hz hr)
        · exact h y hy
      · exact h y hy
  exact key rest [i] (fun x hx => .inl (by simpa using hx)) x hx
theorem chk_pair {ops : List AOp} {es : List (List Nat)} {order : List (Nat × List Nat)} (h : chk ops es order = true) :
    order.Pairwise (PairOK ops es) ∧ ∀ a ∈ order, (ops.getD a.1 default).isE = false → ∃ d, (ops.getD a.1 default).d = some d ∧ d ∉ (ops.getD a.1 default).reads := by
  induction order with
  | nil => exact ⟨.nil, by simp⟩
  | cons a rest ih =>
    simp only [chk, Bool.and_eq_true] at h
    obtain ⟨⟨h1, h2⟩, h3⟩ := h
    obtain ⟨i1, i2⟩ := ih h3
    refine ⟨.cons ?_ i1, ?_⟩
    · intro b hb
      have hp := List.all_eq_true.1 h1 b hb
      simp only [Bool.and_eq_true] at hp
      obtain ⟨⟨⟨⟨⟨p1, p2⟩, p3⟩, p4⟩, p5⟩, p6⟩ := hp
      have hne : a.1 ≠ b.1 := by simpa using p1
      have hr : (desc es a.1 rest).contains b.1 = true → Reach es a.1 b.1 := by
        intro hc
        rcases desc_reach (by simpa using hc) with e | hr
        · exact absurd e.symm hne
        · exact hr
      refine ⟨hne, ?_, ?_, ?_, ?_, ?_⟩
      · intro he
        rw [he] at p2
        exact hr (by simpa using p2)
      · intro hA hB
        rw [hA, hB] at p3
        simp only [Bool.not_true, Bool.or_false, Bool.false_or, Bool.or_eq_true] at p3
        rcases p3 with p3 | p3
        · exact .inl (hr p3)
        · exact .inr (by simpa using p3)
      · intro s hs hrd
        rw [hs] at p4
        simp only [Bool.or_eq_true, Bool.and_eq_true, Bool.not_eq_true'] at p4
        rcases p4 with p4 | ⟨p4, p4'⟩
        · simp at p4; exact absurd hrd p4
        · exact ⟨p4, hr p4'⟩
      · intro s hs hrd
        rw [hs] at p5
        simp only [Bool.or_eq_true, Bool.not_eq_true'] at p5
        rcases p5 with p5 | p5
        · simp at p5; exact absurd hrd p5
        · exact hr p5
      · intro s hs hs'
        rw [hs] at p6
        simp only [hs', beq_self_eq_true, Bool.not_true, Bool.false_or, Bool.and_eq_true] at p6
        exact p6
    · intro x hx he
      rcases List.mem_cons.1 hx with rfl | hx
      · rw [he] at h2
        simp only [Bool.false_or] at h2
        split at h2
        · rename_i s hs
          exact ⟨s, hs, by simpa using h2⟩
        · cases h2
      · exact i2 x hx he
theorem gd_congr {g : Option (Nat × Bool)} {ρ ρ' : Env} {y y' n n' : Prop} (hg : ∀ s want, g = some (s, want) → lk ρ s = lk ρ' s) (hy : y = y') (hn : n = n') : gd g ρ y n = gd g ρ' y' n' := by
  subst hy
  subst hn
  cases g with
  | none => rfl
  | some x =>
    obtain ⟨s, want⟩ := x
    simp only [gd, hg s want rfl]
theorem reads_guard {o : AOp} {s : Nat} {want : Bool} (h : o.g = some (s, want)) : s ∈ o.reads := by simp [AOp.reads, h]
theorem reads_r {o : AOp} {k : RK} (h : o.k = .r k) {x : Operand} (hx : x ∈ k.ops) {s : Nat} (hs : s ∈ slot x) : s ∈ o.reads := by
  simp only [AOp.reads, h, List.mem_append, List.mem_flatMap]
  exact .inl ⟨x, hx, hs⟩
theorem reads_e {o : AOp} {k : EK} (h : o.k = .e k) {x : Operand} (hx : x ∈ k.ops) {s : Nat} (hs : s ∈ slot x) : s ∈ o.reads := by
  simp only [AOp.reads, h, List.mem_append, List.mem_flatMap]
  exact .inl ⟨x, hx, hs⟩
theorem pend_congr {o : AOp} {ρ ρ' : Env} {h : Heap} (hr : ∀ s ∈ o.reads, lk ρ s = lk ρ' s) (hd : ∀ d, o.d = some d → lk ρ d = lk ρ' d) : pend G o ρ h = pend G o ρ' h := by
  unfold pend
  cases hk : o.k with
  | e k => rfl
  | r k =>
    cases hdd : o.d with
    | none => rfl
    | some d =>
      simp only
      rw [hd d hdd]
      exact gd_congr (fun s want hg => hr s (reads_guard hg)) (by rw [evR_congr fun x hx => xv_congr x fun s hs => hr s (reads_r hk hx hs)]) rfl
theorem advance {aops : List AOp} {es : List (List Nat)} {h : Heap} {K : Env → Heap → Prop} : ∀ (suf : List (Nat × List Nat)) (ρ : Env), suf.Pairwise (PairOK aops es) →
    (∀ a ∈ suf, (aops.getD a.1 default).isE = false → ∃ d, (aops.getD a.1 default).d = some d ∧ d ∉ (aops.getD a.1 default).reads) → dwp P G aops suf ρ h K →
    ∃ rs suf' ρ', suf = rs ++ suf' ∧ (∀ r ∈ rs, (aops.getD r.1 default).isE = false) ∧ (∀ a, suf'.head? = some a → (aops.getD a.1 default).isE = true) ∧ dwp P G aops suf' ρ' h K ∧
      (∀ s, (∀ r ∈ rs, (aops.getD r.1 default).d ≠ some s) → lk ρ' s = lk ρ s) ∧ (∀ r ∈ rs, pend G (aops.getD r.1 default) ρ' h) := by
  intro suf
  induction suf with
  | nil => intro ρ _ _ hq; exact ⟨[], [], ρ, rfl, by simp, by simp, hq, fun _ _ => rfl, by simp⟩
  | cons a rest ih =>
    intro ρ hp hrd hq
    obtain ⟨i, fl⟩ := a
    cases he : (aops.getD i default).isE with
    | true => exact ⟨[], (i, fl) :: rest, ρ, rfl, by simp, fun a ha => by simp at ha; subst ha; exact he, hq, fun _ _ => rfl, by simp⟩
    | false =>
      obtain ⟨hp1, hp2⟩ := List.pairwise_cons.1 hp
      obtain ⟨d, hd, hdr⟩ := hrd (i, fl) (by simp) he
      have hgo : ∀ (ρ1 : Env) (v : AV), ρ1 = put (some d) v ρ → dwp P G aops rest ρ1 h K → pend G (aops.getD i default) ρ1 h →
          ∃ rs suf' ρ', (i, fl) :: rest = rs ++ suf' ∧ (∀ r ∈ rs, (aops.getD r.1 default).isE = false) ∧ (∀ a, suf'.head? = some a → (aops.getD a.1 default).isE = true) ∧ dwp P G aops suf' ρ' h K ∧
            (∀ s, (∀ r ∈ rs, (aops.getD r.1 default).d ≠ some s) → lk ρ' s = lk ρ s) ∧ (∀ r ∈ rs, pend G (aops.getD r.1 default) ρ' h) := by
        intro ρ1 v hρ hq1 hpd
        obtain ⟨rs, suf', ρ', h1, h2, h3, h4, h5, h6⟩ := ih ρ1 hp2 (fun a ha => hrd a (by simp [ha])) hq1
        refine ⟨(i, fl) :: rs, suf', ρ', by rw [h1]; rfl, ?_, h3, h4, ?_, ?_⟩
        · intro r hr
          rcases List.mem_cons.1 hr with rfl | hr
          · exact he
          · exact h2 r hr
        · intro s hs
          rw [h5 s fun r hr => hs r (by simp [hr]), hρ, lk_put, if_neg]
          intro e
          cases e
          exact hs (i, fl) (by simp) hd
        · intro r hr
          rcases List.mem_cons.1 hr with rfl | hr
          · rw [← pend_congr (ρ := ρ1)]
            · exact hpd
            · intro s hs
              refine (h5 s fun r' hr' hd' => ?_).symm
              have hok := hp1 r' (by rw [h1]; simp [hr'])
              have := (hok.anti s hd' hs).1
              rw [h2 r' hr'] at this
              cases this
            · intro d' hd'
              refine (h5 d' fun r' hr' hd'' => ?_).symm
              have hok := hp1 r' (by rw [h1]; simp [hr'])
              have := (hok.out d' hd' hd'').1
              simp only at this
              rw [he] at this
              cases this
          · exact h6 r hr
      simp only [dwp] at hq
      split at hq
      · exact hq.elim
      · rename_i o ho
        have hgo' : aops.getD i default = o := by rw [List.getD_eq_getElem?_getD, ho]; rfl
        rw [hgo'] at he hd hdr hgo
        cases hk : o.k with
        | e k => simp [AOp.isE, hk] at he
        | r k =>
          rw [hk, hd] at hq
          simp only at hq
          have hlk : ∀ (v : AV) (s : Nat), s ∈ o.reads → lk (put (some d) v ρ) s = lk ρ s := fun v s hs => by
            rw [lk_put, if_neg]
            intro e
            cases e
            exact hdr hs
          have hev : ∀ v, evR G k (put (some d) v ρ) h = evR G k ρ h := fun v => evR_congr fun x hx => xv_congr x fun s hs => hlk v s (reads_r hk hx hs)
          cases hgd : o.g with
          | none =>
            rw [hgd] at hq
            simp only [gd] at hq
            split at hq
            · rename_i v hv
              refine hgo _ v rfl hq ?_
              simp only [pend, hk, hd, hgd, gd]
              rw [hev, hv, lk_put, if_pos rfl]
            · exact hq.elim
          | some x =>
            obtain ⟨s, want⟩ := x
            have hs := reads_guard hgd
            rw [hgd] at hq
            simp only [gd] at hq
            split at hq
            · rename_i b hb
              by_cases hbw : b = want
              · have hq' := hq.1 hbw
                split at hq'
                · rename_i v hv
                  refine hgo _ v rfl hq' ?_
                  simp only [pend, hk, hd, hgd, gd]
                  rw [hlk v s hs, hb]
                  refine ⟨fun _ => ?_, fun hne => absurd hbw hne⟩
                  rw [hev, hv, lk_put, if_pos rfl]
                · exact hq'.elim
              · refine hgo _ _ rfl (hq.2 hbw) ?_
                simp only [pend, hk, hd, hgd, gd]
                rw [hlk _ s hs, hb]
                refine ⟨fun e => absurd e hbw, fun _ => ?_⟩
                rw [lk_put, if_pos rfl]
            · rename_i hb
              refine hgo _ _ rfl hq ?_
              simp only [pend, hk, hd, hgd, gd]
              rw [hlk _ s hs, hb]
              simp only
              rw [lk_put, if_pos rfl]
            · exact hq.elim
theorem countP_lt {α : Type} {p q : α → Bool} : ∀ (l : List α), (∀ x ∈ l, q x = true → p x = true) → (∃ x ∈ l, p x = true ∧ q x = false) → l.countP q < l.countP p := by
  intro l
  induction l with
  | nil => rintro _ ⟨x, hx, _⟩; cases hx
  | cons a r ih =>
    intro h1 ⟨x, hx, h2, h3⟩
    have hle : r.countP q ≤ r.countP p := List.countP_mono_left fun x hx => h1 x (by simp [hx])
    simp only [List.countP_cons]
    rcases List.mem_cons.1 hx with rfl | hx
    · rw [h2, h3]; simp; omega
    · have := ih (fun x hx => h1 x (by simp [hx])) ⟨x, hx, h2, h3⟩
      cases hq : q a with
      | false => simp; split <;> omega
      | true => rw [h1 a (by simp) hq]; simp; omega
/-- How far a region has come: what is walked ahead (pre), what is left (suf), and which operations are still to be done for real. -/
structure Inv (P : Program) (G : Glo) (w0 : W0) (h0 : Heap) (N : Nat) (aops : List AOp) (es : List (List Nat)) (order : List (Nat × List Nat)) (K : Env → Heap → Prop) (n : Nat)
    (listed : Array Bool) (a : Act) (w : World) (pre suf : List (Nat × List Nat)) (ρ : Env) (h : Heap) : Prop where
  eq : order = pre ++ suf
  size : listed.size = n
  sub : ∀ i, listed.getD i false = true → ∃ x ∈ pre, x.1 = i
  closed : ∀ x, listed.getD x false = true → ∀ y ∈ es.getD x [], listed.getD y false = true
  head : ∀ x, suf.head? = some x → (aops.getD x.1 default).isE = true
  walk : dwp P G aops suf ρ h K
  nd : a.defers = w0.2
  sz : a.tmps.size = N
  env : ∀ s, (∀ x ∈ pre, listed.getD x.1 false = false → (aops.getD x.1 default).d ≠ some s) → Rep w h.dom (lk ρ s) (a.tmps.getD s undef)
  heap : HRep w h
  glo : GRep G w h.dom
  fr : Fr w0.1 h0 w h
  pen : ∀ x ∈ pre, listed.getD x.1 false = false → (aops.getD x.1 default).isE = false ∧ pend G (aops.getD x.1 default) ρ h
theorem getD_set {l : Array Bool} {i j : Nat} (hi : i < l.size) : (l.setIfInBounds i true).getD j false = if j = i then true else l.getD j false := by
  simp only [Array.getD_eq_getD_getElem?]
  by_cases e : j = i
  · subst e; simp [hi]
  · rw [if_neg e, Array.getElem?_setIfInBounds_ne (Ne.symm e)]
theorem dreg_inv {w0 : W0} {h0 : Heap} {N : Nat} {ops : Array Oper} {aops : List AOp} (ht : ops.toList.mapM (trOp P N ops) = some (aops.map AOp.bare)) {order : List (Nat × List Nat)}
    (hc : chk aops (ops.toList.map edgesOf) order = true) (hlin : lin (ops.toList.map edgesOf) [] order = true) (hall : ∀ i, i < ops.size → ∃ x ∈ order, x.1 = i) (hin : ∀ x ∈ order, x.1 < ops.size)
    {R : Exit → Act → World → Prop} {K : Env → Heap → Prop} (hR : ∀ ρ h a w, K ρ h → Sim G w0 h0 N ρ h a w → R .normal a w) {ro : Option Nat} :
    ∀ (fuel : Nat) (listed : Array Bool) (a : Act) (w : World) (pre suf : List (Nat × List Nat)) (ρ : Env) (h : Heap), order.countP (fun x => !(listed.getD x.1 false)) ≤ fuel →
      Inv P G w0 h0 N aops (ops.toList.map edgesOf) order K ops.size listed a w pre suf ρ h → wpAnyIn (FR ro) 0 P .any ops R fuel listed a w := by
  obtain ⟨hlen, hget⟩ := mapM_get ht
  obtain ⟨hpw, hrd⟩ := chk_pair hc
  generalize hes : ops.toList.map edgesOf = es at *
  have hesi : ∀ i (hi : i < ops.size), es.getD i [] = edgesOf ops[i] := by
    intro i hi
    rw [← hes, List.getD_eq_getElem?_getD, List.getElem?_map]
    simp [hi]
  have hready : ∀ (listed : Array Bool), listed.size = ops.size → ∀ i, i ∈ Region.ready .any ops listed ↔ i < ops.size ∧ listed.getD i false = false ∧ ∀ y ∈ es.getD i [], listed.getD y false = true := by
    intro listed hsz i
    simp only [Region.ready, List.mem_filter, List.mem_range, Bool.and_eq_true, Bool.not_eq_true']
    constructor
    · rintro ⟨hi, h1, h2⟩
      refine ⟨hi, ?_, ?_⟩
      · rw [Array.getD_eq_getD_getElem?, Array.getElem?_eq_getElem (by omega)] at h1 ⊢
        exact h1
      · intro y hy
        rw [hesi i hi] at hy
        simp only [Array.getElem?_eq_getElem hi, Option.map_some, Option.getD_some] at h2
        simp only [edgesOf, List.mem_map, List.mem_filter] at hy
        obtain ⟨e, ⟨he, hb⟩, rfl⟩ := hy
        have := Array.all_eq_true_iff_forall_mem.1 h2 e (by simpa using he)
        simpa [hb] using this
    · rintro ⟨hi, h1, h2⟩
      refine ⟨hi, ?_, ?_⟩
      · rw [Array.getD_eq_getD_getElem?, Array.getElem?_eq_getElem (by omega)] at h1 ⊢
        exact h1
      · simp only [Array.getElem?_eq_getElem hi, Option.map_some, Option.getD_some]
        refine Array.all_eq_true_iff_forall_mem.2 fun e he => ?_
        cases hb : Region.binds .any e with
        | false => rfl
        | true =>
          simp only [Bool.not_true, Bool.false_or]
          refine h2 e.on ?_
          rw [hesi i hi]
          simp only [edgesOf, List.mem_map, List.mem_filter]
          exact ⟨e, ⟨by simpa using he, hb⟩, rfl⟩
  have hdone : ∀ (listed : Array Bool), listed.size = ops.size → Region.ready .any ops listed = [] → ∀ x ∈ order, listed.getD x.1 false = true := by
    intro listed hsz hr
    have key : ∀ (l : List (Nat × List Nat)) (done : List Nat), lin es done l = true → (∀ x ∈ l, x.1 < ops.size) → (∀ y ∈ done, listed.getD y false = true) → ∀ x ∈ l, listed.getD x.1 false = true := by
      intro l
      induction l with
      | nil => intro done _ _ _ x hx; cases hx
      | cons b r ih =>
        intro done h1 h2 h3
        simp only [lin, Bool.and_eq_true] at h1
        have hb : listed.getD b.1 false = true := by
          cases e : listed.getD b.1 false with
          | true => rfl
          | false =>
            have : b.1 ∈ Region.ready .any ops listed := (hready listed hsz b.1).2 ⟨h2 b (by simp), e, fun y hy => h3 y (by simpa using List.all_eq_true.1 h1.1 y hy)⟩
            rw [hr] at this
            cases this
        intro x hx
        rcases List.mem_cons.1 hx with rfl | hx
        · exact hb
        · exact ih (b.1 :: done) h1.2 (fun x hx => h2 x (by simp [hx])) (fun y hy => by rcases List.mem_cons.1 hy with rfl | hy; exact hb; exact h3 y hy) x hx
    exact key order [] hlin hin (by simp)
  have hfin : ∀ (listed : Array Bool) (a : Act) (w : World) (pre suf : List (Nat × List Nat)) (ρ : Env) (h : Heap), Inv P G w0 h0 N aops es order K ops.size listed a w pre suf ρ h → Region.ready .any ops listed = [] → R .normal a w := by
    intro listed a w pre suf ρ h I hr
    have hd := hdone listed I.size hr
    cases suf with
    | nil =>
      refine hR ρ h a w I.walk ⟨I.nd, I.sz, fun s => I.env s fun x hx e => ?_, I.heap, I.glo, I.fr⟩
      have := hd x (by rw [I.eq]; simp [hx])
      rw [e] at this
      cases this
    | cons b r =>
      obtain ⟨x, hx, e⟩ := I.sub b.1 (hd b (by rw [I.eq]; simp))
      have := (List.pairwise_append.1 (I.eq ▸ hpw)).2.2 x hx b (by simp)
      exact absurd e this.ne
  intro fuel
  induction fuel with
  | zero =>
    intro listed a w pre suf ρ h hf I
    have hr : Region.ready .any ops listed = [] := by
      cases e : Region.ready .any ops listed with
      | nil => rfl
      | cons i r =>
        obtain ⟨hi, h1, _⟩ := (hready listed I.size i).1 (by rw [e]; simp)
        obtain ⟨x, hx, rfl⟩ := hall i hi
        have : 0 < order.countP (fun x => !(listed.getD x.1 false)) := List.countP_pos_iff.2 ⟨x, hx, by rw [h1]; rfl⟩
        omega
    exact ⟨hr, hfin _ _ _ _ _ _ _ I hr⟩
  | succ fuel ih =>
    intro listed a w pre suf ρ h hf I
    refine ⟨fun hr => hfin _ _ _ _ _ _ _ I hr, fun i hi => ?_⟩
    obtain ⟨hlt, hun, hpreds⟩ := (hready listed I.size i).1 hi
    have hls : i < listed.size := by rw [I.size]; exact hlt
    obtain ⟨bo, hbo, hto⟩ := hget i ops[i] (by simp [hlt])
    rw [List.getElem?_map] at hbo
    obtain ⟨ao, hao, rfl⟩ := Option.map_eq_some_iff.1 hbo
    have hgD : aops.getD i default = ao := by rw [List.getD_eq_getElem?_getD, hao]; rfl
    obtain ⟨hk, hd, hN, hg⟩ := wanted_of hto
    have hdl : ∀ s, ao.d = some s → s < a.tmps.size := fun s hs => by rw [I.sz]; exact hN s (by rw [← hd]; exact hs)
    have hfuel : order.countP (fun x => !((listed.setIfInBounds i true).getD x.1 false)) ≤ fuel := by
      obtain ⟨x, hx, hxi⟩ := hall i hlt
      have := countP_lt (p := fun x : Nat × List Nat => !(listed.getD x.1 false)) (q := fun x : Nat × List Nat => !((listed.setIfInBounds i true).getD x.1 false)) order (fun y _ hy => by
        rw [getD_set hls] at hy
        split at hy
        · cases hy
        · exact hy) ⟨x, hx, by simp only [hxi, hun]; rfl, by rw [getD_set hls, if_pos hxi]; rfl⟩
      omega
    have hclosed : ∀ x, (listed.setIfInBounds i true).getD x false = true → ∀ y ∈ es.getD x [], (listed.setIfInBounds i true).getD y false = true := by
      intro x hx y hy
      rw [getD_set hls] at hx ⊢
      split
      · rfl
      · split at hx
        · rename_i e; subst e; exact hpreds y hy
        · exact I.closed x hx y hy
    have hreach : ∀ {j : Nat}, Reach es j i → listed.getD j false = true := fun hr => hr.closed (T := fun x => listed.getD x false = true) I.closed hpreds
    -- what the operation reads is at hand
    have hslots : ∀ s ∈ ao.reads, Rep w h.dom (lk ρ s) (a.tmps.getD s undef) := by
      intro s hs
      refine I.env s fun x hx hxu hxd => ?_
      obtain ⟨hxe, _⟩ := I.pen x hx hxu
      by_cases hxi : x.1 = i
      · obtain ⟨d, h1, h2⟩ := hrd x (by rw [I.eq]; simp [hx]) hxe
        rw [hxi, hgD] at h1 h2 hxd
        rw [h1] at hxd
        cases hxd
        exact h2 hs
      · -- some other operation that is still to be done writes it
        obtain ⟨y, hy, hyi⟩ := hall i hlt
        rw [I.eq] at hy
        have hyD : aops.getD y.1 default = ao := by rw [hyi]; exact hgD
        have hcase : PairOK aops es x y ∨ PairOK aops es y x := by
          rcases List.mem_append.1 hy with hy | hy
          · have hpp := (List.pairwise_append.1 (I.eq ▸ hpw)).1
            have := List.Pairwise.forall_of_forall_of_flip (R := fun x y => x = y ∨ PairOK aops es x y ∨ PairOK aops es y x) (l := pre) (fun x _ => .inl rfl)
              (hpp.imp fun h => .inr (.inl h)) (hpp.imp fun h => .inr (.inr h)) hx hy
            rcases this with e | h | h
            · rw [e] at hxi; exact absurd hyi hxi
            · exact .inl h
            · exact .inr h
          · exact .inl ((List.pairwise_append.1 (I.eq ▸ hpw)).2.2 x hx y hy)
        rcases hcase with ok | ok
        · have := hreach (hyi ▸ ok.flow s hxd (by rw [hyD]; exact hs))
          rw [hxu] at this
          cases this
        · have := (ok.anti s hxd (by rw [hyD]; exact hs)).1
          rw [hxe] at this
          cases this
    have hkeep : ERep w h.dom (keep ao.reads ρ) a := by
      intro s
      by_cases hs : s ∈ ao.reads
      · rw [lk_keep_mem hs]; exact hslots s hs
      · rcases lk_keep ao.reads ρ s with e | e
        · have : lk (keep ao.reads ρ) s = .any := by
            clear e
            generalize ao.reads = l at hs
            induction l with
            | nil => rfl
            | cons k ks ih =>
              simp only [List.mem_cons, not_or] at hs
              simp only [keep, List.map_cons, lk]
              have hb : (s == k) = false := by simpa using hs.1
              rw [hb]
              exact ih hs.2
          rw [this]; exact .any _
        · rw [e]; exact .any _
    have hx : ∀ x : Operand, Rep w h.dom (xv G (keep ao.reads ρ) x) (a.eval x) := fun x => rep_xv I.glo hkeep x
    have hkr : ∀ x : Operand, (∀ s ∈ slot x, s ∈ ao.reads) → xv G (keep ao.reads ρ) x = xv G ρ x := fun x hs => xv_congr x fun s h => lk_keep_mem (hs s h)
    have hoi : ops[i]? = some ops[i] := Array.getElem?_eq_getElem hlt
    have hne : ∀ {x : Nat}, (listed.setIfInBounds i true).getD x false = false → x ≠ i ∧ listed.getD x false = false := by
      intro x hx
      rw [getD_set hls] at hx
      split at hx
      · cases hx
      · rename_i e; exact ⟨e, hx⟩
    have hgd := fun (yes no : Prop) => gd_sound (w := w) (O := h.dom) (ρ := ρ) (a := a) (yes := yes) (no := no) hg (fun s want e => hslots s (reads_guard e))
    by_cases hpre : ∃ x ∈ pre, x.1 = i
    · -- it has been walked: it looks again, and sees the same
      obtain ⟨x, hxp, hxi⟩ := hpre
      obtain ⟨hxe, hpend⟩ := I.pen x hxp (by rw [hxi]; exact hun)
      rw [hxi, hgD] at hxe hpend
      unfold pend at hpend
      cases hkk : ao.k with
      | e k => simp [hkk] at hpend
      | r k =>
        cases hdd : ao.d with
        | none => simp [hkk, hdd] at hpend
        | some d =>
          rw [hkk, hdd] at hpend
          simp only at hpend
          have fin : ∀ c, Rep w h.dom (lk ρ d) c → wpAnyIn (FR ro) 0 P .any ops R fuel (listed.setIfInBounds i true) (a.put (some d) c) w := by
            intro c hc'
            refine ih _ _ _ pre suf ρ h hfuel ⟨I.eq, by simpa using I.size, ?_, hclosed, I.head, I.walk, I.nd, by rw [put_size]; exact I.sz, ?_, I.heap, I.glo, I.fr, ?_⟩
            · intro j hj
              rw [getD_set hls] at hj
              split at hj
              · rename_i e; exact ⟨x, hxp, by rw [hxi, e]⟩
              · exact I.sub j hj
            · intro s hs
              by_cases e : s = d
              · subst e
                have := hdl s hdd
                simp [Act.put, Array.getD_eq_getD_getElem?, this]; exact hc'
              · have h1 : (a.put (some d) c).tmps.getD s undef = a.tmps.getD s undef := by
                  simp only [Act.put]
                  rw [Array.getD_eq_getD_getElem?, Array.getElem?_setIfInBounds_ne (Ne.symm e), ← Array.getD_eq_getD_getElem?]
                rw [h1]
                refine I.env s fun z hz hzu hzd => ?_
                by_cases hzi : z.1 = i
                · rw [hzi, hgD, hdd] at hzd
                  cases hzd
                  exact e rfl
                · exact hs z hz (by rw [getD_set hls, if_neg hzi]; exact hzu) hzd
            · intro z hz hzu
              exact I.pen z hz (hne hzu).2
          unfold Go.wpOpIn
          rw [hoi]
          simp only
          rcases hgd _ _ hpend with ⟨hw, hy⟩ | ⟨hw, hno⟩
          · rw [if_pos hw]
            have hev : evR G k (keep ao.reads ρ) h = some (lk ρ d) := by
              rw [← hy]
              exact evR_congr fun x hx => hkr x fun s hs => reads_r hkk hx hs
            obtain ⟨c, r1, r2⟩ := evR_sound ops[i] (hk.trans (by rw [hkk]; rfl)) I.heap (fun x _ => hx x) hev
            refine wpIn_run (fun c e => by rw [e] at hk; rw [hkk] at hk; cases hk) ?_
            rw [r1, Oper.uponIn_value, ← hd, hdd]
            exact fin c r2
          · rw [if_neg (by rw [hw]; simp), ← hd, hdd]
            refine ⟨fun _ _ => trivial, ?_⟩
            exact fin undef (by rw [hno]; exact rep_undef)
    · -- it is the next that acts
      have hsuf : ∃ y rest, suf = y :: rest ∧ y.1 = i := by
        obtain ⟨y, hy, hyi⟩ := hall i hlt
        rw [I.eq] at hy
        rcases List.mem_append.1 hy with hy | hy
        · exact absurd ⟨y, hy, hyi⟩ hpre
        · cases hs : suf with
          | nil => rw [hs] at hy; cases hy
          | cons z rest =>
            rw [hs] at hy
            rcases List.mem_cons.1 hy with rfl | hy
            · exact ⟨y, rest, rfl, hyi⟩
            · have hze := I.head z (by rw [hs]; rfl)
              have hpz := (List.pairwise_append.1 (I.eq ▸ hpw)).2.1
              rw [hs] at hpz
              have ok := (List.pairwise_cons.1 hpz).1 y hy
              have hzl := hreach (hyi ▸ ok.behind hze)
              obtain ⟨x, hx, e⟩ := I.sub z.1 hzl
              have := (List.pairwise_append.1 (I.eq ▸ hpw)).2.2 x hx z (by rw [hs]; simp)
              exact absurd e this.ne
      obtain ⟨y, rest, hs, hyi⟩ := hsuf
      have hye : ao.isE = true := by
        have := I.head y (by rw [hs]; rfl)
        rwa [hyi, hgD] at this
      have hwalk := I.walk
      rw [hs] at hwalk
      obtain ⟨y1, fl⟩ := y
      simp only at hyi
      subst hyi
      simp only [dwp, hao] at hwalk
      cases hkk : ao.k with
      | r k => simp [AOp.isE, hkk] at hye
      | e k =>
        rw [hkk] at hwalk
        simp only at hwalk
        have hord : order = pre ++ (y1, fl) :: rest := by rw [I.eq, hs]
        have hp0 := List.pairwise_append.1 (hord ▸ hpw)
        have hpxy : ∀ x ∈ pre, PairOK aops es x (y1, fl) := fun x hx => hp0.2.2 x hx _ (by simp)
        have hpxr : ∀ x ∈ pre, ∀ r ∈ rest, PairOK aops es x r := fun x hx r hr => hp0.2.2 x hx r (by simp [hr])
        have hpyr := (List.pairwise_cons.1 hp0.2.1).1
        have fin : ∀ c w' av h', HRep w' h' → Rep w' h'.dom av c → Fr w h w' h' → (∀ x ∈ pre, listed.getD x.1 false = false → pend G (aops.getD x.1 default) ρ h') → dwp P G aops rest (put ao.d av ρ) h' K →
            wpAnyIn (FR ro) 0 P .any ops R fuel (listed.setIfInBounds y1 true) (a.put ao.d c) w' := by
          intro c w' av h' q1 q2 q3 q4 q5
          obtain ⟨rs, suf', ρ', e1, e2, e3, e4, e5, e6⟩ := advance rest (put ao.d av ρ) (List.pairwise_cons.1 hp0.2.1).2 (fun z hz => hrd z (by rw [hord]; simp [hz])) q5
          have hrsu : ∀ r ∈ rs, (listed.setIfInBounds y1 true).getD r.1 false = false := by
            intro r hr
            have hrr : r ∈ rest := by rw [e1]; simp [hr]
            rw [getD_set hls, if_neg (Ne.symm (hpyr r hrr).ne)]
            cases e : listed.getD r.1 false with
            | false => rfl
            | true =>
              obtain ⟨x, hx, hxr⟩ := I.sub r.1 e
              exact absurd hxr (hpxr x hx r hrr).ne
          refine ih _ _ _ (pre ++ (y1, fl) :: rs) suf' ρ' h' hfuel ⟨by rw [hord, e1]; simp, by simpa using I.size, ?_, hclosed, e3, e4, by rw [put_nd]; exact I.nd, by rw [put_size]; exact I.sz, ?_, q1, I.glo.keep q3.keeps, I.fr.trans q3, ?_⟩
          · intro j hj
            rw [getD_set hls] at hj
            split at hj
            · rename_i e; exact ⟨(y1, fl), by simp, e.symm⟩
            · obtain ⟨x, hx, hxj⟩ := I.sub j hj
              exact ⟨x, by simp [hx], hxj⟩
          · intro s hs'
            rw [e5 s fun r hr hd' => hs' r (by simp [hr]) (hrsu r hr) hd', lk_put]
            by_cases e : ao.d = some s
            · rw [if_pos e]
              have := hdl s e
              simp [e, Act.put, Array.getD_eq_getD_getElem?, this]; exact q2
            · rw [if_neg e]
              have h1 : (a.put ao.d c).tmps.getD s undef = a.tmps.getD s undef := by
                cases hdd : ao.d with
                | none => rfl
                | some d =>
                  have hne' : d ≠ s := fun e' => e (by rw [hdd, e'])
                  simp only [Act.put]
                  rw [Array.getD_eq_getD_getElem?, Array.getElem?_setIfInBounds_ne hne', ← Array.getD_eq_getD_getElem?]
              rw [h1]
              refine (I.env s fun z hz hzu hzd => ?_).keep q3.keeps
              have hzy : z.1 ≠ y1 := fun e' => hpre ⟨z, hz, e'⟩
              exact hs' z (by simp [hz]) (by rw [getD_set hls, if_neg hzy]; exact hzu) hzd
          · intro x hx hxu
            obtain ⟨hxy, hxu'⟩ := hne hxu
            simp only [List.mem_append, List.mem_cons] at hx
            rcases hx with hx | rfl | hx
            · obtain ⟨hxe, _⟩ := I.pen x hx hxu'
              refine ⟨hxe, ?_⟩
              have hnr : ¬ Reach es x.1 y1 := fun hr => by
                have := hreach hr
                rw [hxu'] at this
                cases this
              rw [← pend_congr (ρ := ρ)]
              · exact q4 x hx hxu'
              · intro s hs'
                rw [e5 s fun r hr hd' => ?_, lk_put, if_neg]
                · intro e
                  exact hnr ((hpxy x hx).anti s (by rw [hgD]; exact e) hs').2
                · have := ((hpxr x hx r (by rw [e1]; simp [hr])).anti s hd' hs').1
                  rw [e2 r hr] at this
                  cases this
              · intro d hd'
                rw [e5 d fun r hr hd'' => ?_, lk_put, if_neg]
                · intro e
                  have := ((hpxy x hx).out d hd' (by rw [hgD]; exact e)).1
                  rw [hxe] at this
                  cases this
                · have := ((hpxr x hx r (by rw [e1]; simp [hr])).out d hd' hd'').1
                  rw [hxe] at this
                  cases this
            · exact absurd rfl hxy
            · exact ⟨e2 x hx, e6 x hx⟩
        unfold Go.wpOpIn
        rw [hoi]
        simp only
        rcases hgd _ _ hwalk with ⟨hw, hy⟩ | ⟨hw, hno⟩
        · rw [if_pos hw]
          have hy' : stE P G k (keep ao.reads ρ) h (fun v h' => stb G aops ρ h' fl ∧ dwp P G aops rest (put ao.d v ρ) h' K) := by
            rw [stE_congr (ρ' := ρ) fun x hx => hkr x fun s hs => reads_e hkk hx hs]
            exact hy
          refine stE_sound ops[y1] (hk.trans (by rw [hkk]; rfl)) I.heap I.glo (fun x _ => hx x) hy' ?_
          intro c w' av h' ⟨q5, q6⟩ q1 q2 q3
          rw [← hd]
          refine fin c w' av h' q1 q2 q3 ?_ q6
          intro x hx hxu
          obtain ⟨hxe, _⟩ := I.pen x hx hxu
          rcases (hpxy x hx).floats hxe (by simp only [hgD]; exact hye) with hr | hm
          · have := hreach hr
            rw [hxu] at this
            cases this
          · have key : ∀ (l : List Nat), stb G aops ρ h' l → ∀ j ∈ l, pend G (aops.getD j default) ρ h' := by
              intro l
              induction l with
              | nil => intro _ j hj; cases hj
              | cons j0 l ihl =>
                intro hst j hj
                simp only [stb] at hst
                rcases List.mem_cons.1 hj with rfl | hj
                · have := hst.1
                  split at this
                  · rename_i o ho
                    rw [List.getD_eq_getElem?_getD, ho]
                    exact this
                  · exact this.elim
                · exact ihl hst.2 j hj
            exact key fl q5 x.1 hm
        · rw [if_neg (by rw [hw]; simp), ← hd]
          exact ⟨fun _ _ => trivial, fin undef w (.tup []) h I.heap rep_undef (Fr.refl _ _) (fun x hx hxu => (I.pen x hx hxu).2) hno⟩
/-- The order that is laid beside a region serves. -/
def dok (ops : List AOp) (es : List (List Nat)) (order : List (Nat × List Nat)) : Bool :=
  chk ops es order && lin es [] order && (List.range ops.length).all (fun i => (order.map (·.1)).contains i) && order.all (fun x => decide (x.1 < ops.length)) && decide (order.length ≤ ops.length)
theorem Wp.dreg {N : Nat} {ρ : Env} {h : Heap} {Q : Exit → Env → Heap → Prop} (hm : P.follows .mixedOrders = true) {ops : List AOp} {es : List (List Nat)} {order : List (Nat × List Nat)} (hd : dok ops es order = true)
    (hq : dwp P G ops order ρ h fun ρ' h' => Q .normal ρ' h') : Wp P G N (.dreg ops es order) ρ h Q := by
  intro ro c hc w0 h0 a w hs
  obtain ⟨id, l, rfl, ht, hes⟩ := inv_any hc
  subst hes
  simp only [dok, Bool.and_eq_true] at hd
  obtain ⟨⟨⟨⟨d1, d2⟩, d3⟩, d4⟩, d5⟩ := hd
  obtain ⟨hlen, _⟩ := mapM_get ht
  have hsz : ops.length = l.size := by rw [List.length_map] at hlen; rw [← hlen]; simp
  obtain ⟨hpw, hrd⟩ := chk_pair d1
  obtain ⟨rs, suf', ρ', e1, e2, e3, e4, e5, e6⟩ := advance order ρ hpw (fun a ha => hrd a ha) hq
  have hs' : Sim G w0 h0 N ρ h a { w with drawn := w.drawn + 1 } := by
    have hk : Keeps w h.dom { w with drawn := w.drawn + 1 } h.dom := ⟨Nat.le_refl _, fun b _ ho => ⟨ho, rfl⟩, fun _ h => h⟩
    refine ⟨hs.nd, hs.sz, hs.env.keep hk, ?_, hs.glo.keep hk, ⟨hs.fr.size, hs.fr.blk, hs.fr.cel, hs.fr.os, hs.fr.tape, hs.fr.out⟩⟩
    intro b x hb
    exact own_keep (hs.heap b x hb) rfl hk
  refine wpIn_region_any hm ?_
  refine dreg_inv (w0 := w0) (h0 := h0) ht d1 d2 (fun i hi => ?_) (fun x hx => ?_) (R := fun e a' w' => ∃ ρ' h', Q e ρ' h' ∧ Sim G w0 h0 N ρ' h' a' w') (K := fun ρ' h' => Q .normal ρ' h') (fun ρ' h' a' w' q s => ⟨ρ', h', q, s⟩)
    l.size _ a _ rs suf' ρ' h ?_ ⟨e1, by simp, ?_, ?_, e3, e4, hs'.nd, hs'.sz, ?_, hs'.heap, hs'.glo, hs'.fr, fun x hx _ => ⟨e2 x hx, e6 x hx⟩⟩
  · have := List.all_eq_true.1 d3 i (by simp; omega)
    simp only [List.contains_iff_mem, List.mem_map] at this
    exact this
  · have := List.all_eq_true.1 d4 x hx
    simp at this
    omega
  · -- no more operations than there are places
    have h1 : order.length ≤ ops.length := of_decide_eq_true d5
    exact Nat.le_trans List.countP_le_length (by omega)
  · intro i hi
    rw [Array.getD_eq_getD_getElem?, Array.getElem?_replicate] at hi
    split at hi <;> cases hi
  · intro x hx
    rw [Array.getD_eq_getD_getElem?, Array.getElem?_replicate] at hx
    split at hx <;> cases hx
  · intro s hs2
    rw [e5 s fun r hr hd' => hs2 r hr (by
      rw [Array.getD_eq_getD_getElem?, Array.getElem?_replicate]
      split <;> rfl) hd']
    exact hs'.env s
/-! The same, where what acts may go in more than one order: a tree of the ways. -/
def dw1 (P : Program) (G : Glo) (ops : List AOp) (fl : List Nat) (ρ : Env) (h : Heap) (q : Env → Heap → Prop) (o : AOp) : Prop :=
  gd o.g ρ (match o.k with
    | .r k => match evR G k ρ h with
      | some v => q (put o.d v ρ) h
      | none => False
    | .e k => stE P G k ρ h fun v h' => stb G ops ρ h' fl ∧ q (put o.d v ρ) h') (q (put o.d (.tup []) ρ) h)
def altQ : OT → Prop → Prop
  | .nil, _ => True
  | _, p => p
def dwpT (P : Program) (G : Glo) (ops : List AOp) (Q : Env → Heap → Prop) : OT → Env → Heap → Prop
  | .nil, ρ, h => Q ρ h
  | .r i t, ρ, h => match ops[i]? with
    | none => False
    | some o => dw1 P G ops [] ρ h (dwpT P G ops Q t) o
  | .e i fl t alt, ρ, h => (match ops[i]? with
    | none => False
    | some o => dw1 P G ops fl ρ h (dwpT P G ops Q t) o) ∧ altQ alt (dwpT P G ops Q alt ρ h)
def alts : OT → List Nat
  | .e i _ _ alt => i :: alts alt
  | _ => []
/-- What two operations, one ahead of the other in some way, must meet. -/
structure Pair3 (ops : List AOp) (es : List (List Nat)) (a b : Nat) : Prop where
  ne : a ≠ b
  anti : ∀ s, (ops.getD b default).d = some s → s ∈ (ops.getD a default).reads → (ops.getD b default).isE = true ∧ Reach es a b
  flow : ∀ s, (ops.getD a default).d = some s → s ∈ (ops.getD b default).reads → Reach es a b
  out : ∀ s, (ops.getD a default).d = some s → (ops.getD b default).d = some s → (ops.getD a default).isE = true ∧ (ops.getD b default).isE = true
def cov (es : List (List Nat)) (n : Nat) (pre : List Nat) : OT → Prop
  | .e i fl t alt => ∀ j, j < n → j ∉ pre → j ∈ alts (.e i fl t alt) ∨ ∃ z ∈ alts (.e i fl t alt), z ∉ pre ∧ Reach es z j
  | _ => True
def altP : OT → Prop → Prop
  | .nil, _ => True
  | .r _ _, _ => False
  | .e _ _ _ _, p => p
def TOK (ops : List AOp) (es : List (List Nat)) (n : Nat) : OT → List Nat → Prop
  | .nil, pre => ∀ j, j < n → j ∈ pre
  | .r i t, pre => i < n ∧ (ops.getD i default).isE = false ∧ (∃ d, (ops.getD i default).d = some d ∧ d ∉ (ops.getD i default).reads) ∧ (∀ x ∈ pre, Pair3 ops es x i) ∧
      cov es n (pre ++ [i]) t ∧ TOK ops es n t (pre ++ [i])
  | .e i fl t alt, pre => (i < n ∧ (ops.getD i default).isE = true ∧ (∀ x ∈ pre, Pair3 ops es x i ∧ ((ops.getD x default).isE = false → Reach es x i ∨ x ∈ fl)) ∧
      cov es n (pre ++ [i]) t ∧ TOK ops es n t (pre ++ [i])) ∧ altP alt (TOK ops es n alt pre)
def isR : OT → Bool
  | .r _ _ => true
  | _ => false
theorem Reach.trans {es : List (List Nat)} {a b c : Nat} (h : Reach es a b) (h' : Reach es b c) : Reach es a c := by
  induction h' with
  | one hm => exact .step hm h
  | step hm _ ih => exact .step hm ih
def anc (es : List (List Nat)) (i : Nat) : List Nat :=
  (List.range (i + 1)).reverse.foldl (fun acc y => if acc.contains y then es.getD y [] ++ acc else acc) [i]
theorem anc_reach {es : List (List Nat)} {i x : Nat} (hx : x ∈ anc es i) : x = i ∨ Reach es x i := by
  have key : ∀ (l acc : List Nat), (∀ x ∈ acc, x = i ∨ Reach es x i) → ∀ x ∈ l.foldl (fun acc y => if acc.contains y then es.getD y [] ++ acc else acc) acc, x = i ∨ Reach es x i := by
    intro l
    induction l with
    | nil => intro acc h x hx; exact h x hx
    | cons y r ih =>
      intro acc h x hx
      simp only [List.foldl_cons] at hx
      refine ih _ ?_ x hx
      intro z hz
      split at hz
      · rename_i hc
        rcases List.mem_append.1 hz with hz | hz
        · rcases h y (by simpa using hc) with rfl | hr
          · exact .inr (.one hz)
          · exact .inr ((Reach.one hz).trans hr)
        · exact h z hz
      · exact h z hz
  exact key _ [i] (fun x hx => .inl (by simpa using hx)) x hx
def pchk (ops : List AOp) (A : List Nat) (a b : Nat) : Bool :=
  let oa := ops.getD a default
  let ob := ops.getD b default
  let r := A.contains a
  a != b && (match ob.d with | some s => !oa.reads.contains s || (ob.isE && r) | none => true) &&
    (match oa.d with | some s => !ob.reads.contains s || r | none => true) &&
    (match oa.d with | some _ => !(oa.d == ob.d) || (oa.isE && ob.isE) | none => true)
theorem pchk_ok {ops : List AOp} {es : List (List Nat)} {a b : Nat} (h : pchk ops (anc es b) a b = true) : Pair3 ops es a b := by
  simp only [pchk, Bool.and_eq_true] at h
  obtain ⟨⟨⟨p1, p4⟩, p5⟩, p6⟩ := h
  have hne : a ≠ b := by simpa using p1
  have hr : (anc es b).contains a = true → Reach es a b := fun hc => by
    rcases anc_reach (es := es) (by simpa using hc) with e | hr
    · exact absurd e hne
    · exact hr
  refine ⟨hne, ?_, ?_, ?_⟩
  · intro s hs hrd
    rw [hs] at p4
    simp only [Bool.or_eq_true, Bool.and_eq_true, Bool.not_eq_true'] at p4
    rcases p4 with p4 | ⟨p4, p4'⟩
    · simp at p4; exact absurd hrd p4
    · exact ⟨p4, hr p4'⟩
  · intro s hs hrd
    rw [hs] at p5
    simp only [Bool.or_eq_true, Bool.not_eq_true'] at p5
    rcases p5 with p5 | p5
    · simp at p5; exact absurd hrd p5
    · exact hr p5
  · intro s hs hs'
    rw [hs] at p6
    simp only [hs', beq_self_eq_true, Bool.not_true, Bool.false_or, Bool.and_eq_true] at p6
    exact p6
def cchk (es : List (List Nat)) (n : Nat) (pre : List Nat) (t : OT) : Bool := match t with
  | .e i fl u alt => (List.range n).all fun j => pre.contains j || (alts (.e i fl u alt)).contains j || (anc es j).any fun z => z != j && (alts (.e i fl u alt)).contains z && !pre.contains z
  | _ => true
theorem cchk_ok {es : List (List Nat)} {n : Nat} {pre : List Nat} {t : OT} (h : cchk es n pre t = true) : cov es n pre t := by
  cases t with
  | nil => trivial
  | r i t => trivial
  | e i fl t alt =>
    intro j hj hp
    have := List.all_eq_true.1 h j (by simpa using hj)
    simp only [Bool.or_eq_true] at this
    rcases this with (q | q) | q
    · exact absurd (by simpa using q) hp
    · exact .inl (by simpa using q)
    · obtain ⟨z, hz, hc⟩ := List.any_eq_true.1 q
      simp only [Bool.and_eq_true, bne_iff_ne, ne_eq, List.contains_iff_mem, Bool.not_eq_true', ← Bool.not_eq_true] at hc
      rcases anc_reach hz with e | hr
      · exact absurd e hc.1.1
      · exact .inr ⟨z, hc.1.2, hc.2, hr⟩
def tchk (ops : List AOp) (es : List (List Nat)) (n : Nat) : OT → List Nat → Bool
  | .nil, pre => (List.range n).all pre.contains
  | .r i t, pre => decide (i < n) && !(ops.getD i default).isE && (match (ops.getD i default).d with | some s => !(ops.getD i default).reads.contains s | none => false) &&
      (let A := anc es i; pre.all fun x => pchk ops A x i) && cchk es n (pre ++ [i]) t && tchk ops es n t (pre ++ [i])
  | .e i fl t alt, pre => (decide (i < n) && (ops.getD i default).isE && (let A := anc es i; pre.all fun x => pchk ops A x i && ((ops.getD x default).isE || A.contains x || fl.contains x)) &&
      cchk es n (pre ++ [i]) t && tchk ops es n t (pre ++ [i])) && (match alt with | .nil => true | .r _ _ => false | .e _ _ _ _ => tchk ops es n alt pre)
theorem tchk_ok {ops : List AOp} {es : List (List Nat)} {n : Nat} : ∀ (t : OT) (pre : List Nat), tchk ops es n t pre = true → TOK ops es n t pre := by
  intro t
  induction t with
  | nil =>
    intro pre h j hj
    have := List.all_eq_true.1 h j (by simpa using hj)
    simpa using this
  | r i t ih =>
    intro pre h
    simp only [tchk, Bool.and_eq_true, Bool.not_eq_true', decide_eq_true_eq] at h
    obtain ⟨⟨⟨⟨⟨h1, h2⟩, h3⟩, h4⟩, h5⟩, h6⟩ := h
    refine ⟨h1, h2, ?_, fun x hx => pchk_ok (List.all_eq_true.1 h4 x hx), cchk_ok h5, ih _ h6⟩
    split at h3
    · rename_i s hs
      exact ⟨s, hs, by simpa using h3⟩
    · cases h3
  | e i fl t alt ih1 ih2 =>
    intro pre h
    simp only [tchk, Bool.and_eq_true, decide_eq_true_eq] at h
    obtain ⟨⟨⟨⟨⟨h1, h2⟩, h3⟩, h4⟩, h5⟩, h6⟩ := h
    refine ⟨⟨h1, h2, fun x hx => ?_, cchk_ok h4, ih1 _ h5⟩, ?_⟩
    · have := List.all_eq_true.1 h3 x hx
      simp only [Bool.and_eq_true, Bool.or_eq_true] at this
      have hp := pchk_ok (es := es) this.1
      refine ⟨hp, fun he => ?_⟩
      rcases this.2 with (q | q) | q
      · rw [he] at q; cases q
      · rcases anc_reach (es := es) (by simpa using q) with e | hr
        · exact absurd e hp.ne
        · exact .inl hr
      · exact .inr (by simpa using q)
    · cases alt with
      | nil => trivial
      | r j u => cases h6
      | e j fl' u alt' => exact ih2 _ h6
theorem advanceT {aops : List AOp} {es : List (List Nat)} {n : Nat} {h : Heap} {K : Env → Heap → Prop} : ∀ (t : OT) (pre : List Nat) (ρ : Env), TOK aops es n t pre → cov es n pre t → dwpT P G aops K t ρ h →
    ∃ rs t' ρ', (∀ r ∈ rs, (aops.getD r default).isE = false) ∧ isR t' = false ∧ TOK aops es n t' (pre ++ rs) ∧ cov es n (pre ++ rs) t' ∧ dwpT P G aops K t' ρ' h ∧
      (∀ s, (∀ r ∈ rs, (aops.getD r default).d ≠ some s) → lk ρ' s = lk ρ s) ∧ (∀ r ∈ rs, pend G (aops.getD r default) ρ' h) ∧
      (∀ r ∈ rs, ∃ d, (aops.getD r default).d = some d ∧ d ∉ (aops.getD r default).reads) ∧ (∀ r ∈ rs, ∀ x ∈ pre, Pair3 aops es x r) ∧ rs.Pairwise (Pair3 aops es) := by
  intro t
  induction t with
  | nil => intro pre ρ hk hc hq; exact ⟨[], .nil, ρ, by simp, rfl, by simpa using hk, by simpa using hc, hq, fun _ _ => rfl, by simp, by simp, by simp, .nil⟩
  | e i fl t alt _ _ => intro pre ρ hk hc hq; exact ⟨[], .e i fl t alt, ρ, by simp, rfl, by rw [List.append_nil]; exact hk, by rw [List.append_nil]; exact hc, hq, fun _ _ => rfl, by simp, by simp, by simp, .nil⟩
  | r i t ih =>
    intro pre ρ hk hc hq
    obtain ⟨hi, he, ⟨d, hd, hdr⟩, hp, hcv, hk'⟩ := hk
    have hgo : ∀ (ρ1 : Env) (v : AV), ρ1 = put (some d) v ρ → dwpT P G aops K t ρ1 h → pend G (aops.getD i default) ρ1 h →
        ∃ rs t' ρ', (∀ r ∈ rs, (aops.getD r default).isE = false) ∧ isR t' = false ∧ TOK aops es n t' (pre ++ rs) ∧ cov es n (pre ++ rs) t' ∧ dwpT P G aops K t' ρ' h ∧
          (∀ s, (∀ r ∈ rs, (aops.getD r default).d ≠ some s) → lk ρ' s = lk ρ s) ∧ (∀ r ∈ rs, pend G (aops.getD r default) ρ' h) ∧
          (∀ r ∈ rs, ∃ d, (aops.getD r default).d = some d ∧ d ∉ (aops.getD r default).reads) ∧ (∀ r ∈ rs, ∀ x ∈ pre, Pair3 aops es x r) ∧ rs.Pairwise (Pair3 aops es) := by
      intro ρ1 v hρ hq1 hpd
      obtain ⟨rs, t', ρ', h1, h2, h3, h4, h5, h6, h7, h8, h9, h10⟩ := ih (pre ++ [i]) ρ1 hk' hcv hq1
      refine ⟨i :: rs, t', ρ', ?_, h2, by simpa using h3, by simpa using h4, h5, ?_, ?_, ?_, ?_, ?_⟩
      · intro r hr
        rcases List.mem_cons.1 hr with rfl | hr
        · exact he
        · exact h1 r hr
      · intro s hs
        rw [h6 s fun r hr => hs r (by simp [hr]), hρ, lk_put, if_neg]
        intro e
        cases e
        exact hs i (by simp) hd
      · intro r hr
        rcases List.mem_cons.1 hr with rfl | hr
        · rw [← pend_congr (ρ := ρ1)]
          · exact hpd
          · intro s hs
            refine (h6 s fun r' hr' hd' => ?_).symm
            have := ((h9 r' hr' r (by simp)).anti s hd' hs).1
            rw [h1 r' hr'] at this
            cases this
          · intro d' hd'
            refine (h6 d' fun r' hr' hd'' => ?_).symm
            have := ((h9 r' hr' r (by simp)).out d' hd' hd'').1
            rw [he] at this
            cases this
        · exact h7 r hr
      · intro r hr
        rcases List.mem_cons.1 hr with rfl | hr
        · exact ⟨d, hd, hdr⟩
        · exact h8 r hr
      · intro r hr x hx
        rcases List.mem_cons.1 hr with rfl | hr
        · exact hp x hx
        · exact h9 r hr x (by simp [hx])
      · exact .cons (fun r hr => h9 r hr i (by simp)) h10
    simp only [dwpT] at hq
    split at hq
    · exact hq.elim
    · rename_i o ho
      have hgo' : aops.getD i default = o := by rw [List.getD_eq_getElem?_getD, ho]; rfl
      rw [hgo'] at he hd hdr hgo
      unfold dw1 at hq
      cases hk : o.k with
      | e k => simp [AOp.isE, hk] at he
      | r k =>
        rw [hk, hd] at hq
        simp only at hq
        have hlk : ∀ (v : AV) (s : Nat), s ∈ o.reads → lk (put (some d) v ρ) s = lk ρ s := fun v s hs => by
          rw [lk_put, if_neg]
          intro e
          cases e
          exact hdr hs
        have hev : ∀ v, evR G k (put (some d) v ρ) h = evR G k ρ h := fun v => evR_congr fun x hx => xv_congr x fun s hs => hlk v s (reads_r hk hx hs)
        cases hgd : o.g with
        | none =>
          rw [hgd] at hq
          simp only [gd] at hq
          split at hq
          · rename_i v hv
            refine hgo _ v rfl hq ?_
            simp only [pend, hk, hd, hgd, gd]
            rw [hev, hv, lk_put, if_pos rfl]
          · exact hq.elim
        | some x =>
          obtain ⟨s, want⟩ := x
          have hs := reads_guard hgd
          rw [hgd] at hq
          simp only [gd] at hq
          split at hq
          · rename_i b hb
            by_cases hbw : b = want
            · have hq' := hq.1 hbw
              split at hq'
              · rename_i v hv
                refine hgo _ v rfl hq' ?_
                simp only [pend, hk, hd, hgd, gd]
                rw [hlk v s hs, hb]
                refine ⟨fun _ => ?_, fun hne => absurd hbw hne⟩
                rw [hev, hv, lk_put, if_pos rfl]
              · exact hq'.elim
            · refine hgo _ _ rfl (hq.2 hbw) ?_
              simp only [pend, hk, hd, hgd, gd]
              rw [hlk _ s hs, hb]
              refine ⟨fun e => absurd e hbw, fun _ => ?_⟩
              rw [lk_put, if_pos rfl]
          · rename_i hb
            refine hgo _ _ rfl hq ?_
            simp only [pend, hk, hd, hgd, gd]
            rw [hlk _ s hs, hb]
            simp only
            rw [lk_put, if_pos rfl]
          · exact hq.elim
theorem alt_pick {aops : List AOp} {es : List (List Nat)} {n : Nat} {h : Heap} {ρ : Env} {K : Env → Heap → Prop} {pre : List Nat} {i : Nat} : ∀ (t : OT), TOK aops es n t pre → dwpT P G aops K t ρ h → i ∈ alts t →
    ∃ fl t', i < n ∧ (aops.getD i default).isE = true ∧ (∀ x ∈ pre, Pair3 aops es x i ∧ ((aops.getD x default).isE = false → Reach es x i ∨ x ∈ fl)) ∧ cov es n (pre ++ [i]) t' ∧ TOK aops es n t' (pre ++ [i]) ∧
      (match aops[i]? with | none => False | some o => dw1 P G aops fl ρ h (dwpT P G aops K t') o) := by
  intro t
  induction t with
  | nil => intro _ _ hi; cases hi
  | r j t _ => intro _ _ hi; cases hi
  | e j fl t alt _ ih2 =>
    intro hk hq hi
    obtain ⟨⟨h1, h2, h3, h4, h5⟩, h6⟩ := hk
    simp only [dwpT] at hq
    simp only [alts, List.mem_cons] at hi
    rcases hi with rfl | hi
    · exact ⟨fl, t, h1, h2, h3, h4, h5, hq.1⟩
    · cases alt with
      | nil => cases hi
      | r _ _ => cases hi
      | e j' fl' u alt' => exact ih2 h6 hq.2 hi
structure InvT (P : Program) (G : Glo) (w0 : W0) (h0 : Heap) (N : Nat) (aops : List AOp) (es : List (List Nat)) (K : Env → Heap → Prop) (n : Nat)
    (listed : Array Bool) (a : Act) (w : World) (pre : List Nat) (t : OT) (ρ : Env) (h : Heap) : Prop where
  size : listed.size = n
  sub : ∀ i, listed.getD i false = true → i ∈ pre
  closed : ∀ x, listed.getD x false = true → ∀ y ∈ es.getD x [], listed.getD y false = true
  head : isR t = false
  tok : TOK aops es n t pre
  cv : cov es n pre t
  walk : dwpT P G aops K t ρ h
  pw : pre.Pairwise (Pair3 aops es)
  own : ∀ x ∈ pre, (aops.getD x default).isE = false → ∃ d, (aops.getD x default).d = some d ∧ d ∉ (aops.getD x default).reads
  nd : a.defers = w0.2
  sz : a.tmps.size = N
  env : ∀ s, (∀ x ∈ pre, listed.getD x false = false → (aops.getD x default).d ≠ some s) → Rep w h.dom (lk ρ s) (a.tmps.getD s undef)
  heap : HRep w h
  glo : GRep G w h.dom
  fr : Fr w0.1 h0 w h
  pen : ∀ x ∈ pre, listed.getD x false = false → (aops.getD x default).isE = false ∧ pend G (aops.getD x default) ρ h
theorem dregT_inv {w0 : W0} {h0 : Heap} {N : Nat} {ops : Array Oper} {aops : List AOp} (ht : ops.toList.mapM (trOp P N ops) = some (aops.map AOp.bare))
    (htopo : ∀ j, j < ops.size → ∀ y ∈ (ops.toList.map edgesOf).getD j [], y < j)
    {R : Exit → Act → World → Prop} {K : Env → Heap → Prop} (hR : ∀ ρ h a w, K ρ h → Sim G w0 h0 N ρ h a w → R .normal a w) {ro : Option Nat} :
    ∀ (fuel : Nat) (listed : Array Bool) (a : Act) (w : World) (pre : List Nat) (t : OT) (ρ : Env) (h : Heap), (List.range ops.size).countP (fun x => !(listed.getD x false)) ≤ fuel →
      InvT P G w0 h0 N aops (ops.toList.map edgesOf) K ops.size listed a w pre t ρ h → wpAnyIn (FR ro) 0 P .any ops R fuel listed a w := by
  obtain ⟨hlen, hget⟩ := mapM_get ht
  generalize hes : ops.toList.map edgesOf = es at *
  have hesi : ∀ i (hi : i < ops.size), es.getD i [] = edgesOf ops[i] := by
    intro i hi
    rw [← hes, List.getD_eq_getElem?_getD, List.getElem?_map]
    simp [hi]
  have hready : ∀ (listed : Array Bool), listed.size = ops.size → ∀ i, i ∈ Region.ready .any ops listed ↔ i < ops.size ∧ listed.getD i false = false ∧ ∀ y ∈ es.getD i [], listed.getD y false = true := by
    intro listed hsz i
    simp only [Region.ready, List.mem_filter, List.mem_range, Bool.and_eq_true, Bool.not_eq_true']
    constructor
    · rintro ⟨hi, h1, h2⟩
      refine ⟨hi, ?_, ?_⟩
      · rw [Array.getD_eq_getD_getElem?, Array.getElem?_eq_getElem (by omega)] at h1 ⊢
        exact h1
      · intro y hy
        rw [hesi i hi] at hy
        simp only [Array.getElem?_eq_getElem hi, Option.map_some, Option.getD_some] at h2
        simp only [edgesOf, List.mem_map, List.mem_filter] at hy
        obtain ⟨e, ⟨he, hb⟩, rfl⟩ := hy
        have := Array.all_eq_true_iff_forall_mem.1 h2 e (by simpa using he)
        simpa [hb] using this
    · rintro ⟨hi, h1, h2⟩
      refine ⟨hi, ?_, ?_⟩
      · rw [Array.getD_eq_getD_getElem?, Array.getElem?_eq_getElem (by omega)] at h1 ⊢
        exact h1
      · simp only [Array.getElem?_eq_getElem hi, Option.map_some, Option.getD_some]
        refine Array.all_eq_true_iff_forall_mem.2 fun e he => ?_
        cases hb : Region.binds .any e with
        | false => rfl
        | true =>
          simp only [Bool.not_true, Bool.false_or]
          refine h2 e.on ?_
          rw [hesi i hi]
          simp only [edgesOf, List.mem_map, List.mem_filter]
          exact ⟨e, ⟨by simpa using he, hb⟩, rfl⟩
  have hfin : ∀ (listed : Array Bool) (a : Act) (w : World) (pre : List Nat) (t : OT) (ρ : Env) (h : Heap), InvT P G w0 h0 N aops es K ops.size listed a w pre t ρ h → Region.ready .any ops listed = [] → R .normal a w := by
    intro listed a w pre t ρ h I hr
    have hd : ∀ j, j < ops.size → listed.getD j false = true := by
      intro j
      induction j using Nat.strongRecOn with
      | _ j ih =>
        intro hj
        cases e : listed.getD j false with
        | true => rfl
        | false =>
          have : j ∈ Region.ready .any ops listed := (hready listed I.size j).2 ⟨hj, e, fun y hy => ih y (htopo j hj y hy) (by have := htopo j hj y hy; omega)⟩
          rw [hr] at this
          cases this
    have hlt : ∀ x ∈ pre, x < ops.size ∨ listed.getD x false = false := fun x _ => by
      by_cases hx : x < ops.size
      · exact .inl hx
      · refine .inr ?_
        rw [Array.getD_eq_getD_getElem?, Array.getElem?_eq_none (by have := I.size; omega)]
        rfl
    cases t with
    | nil =>
      refine hR ρ h a w I.walk ⟨I.nd, I.sz, fun s => I.env s fun x hx e => ?_, I.heap, I.glo, I.fr⟩
      by_cases hxn : x < ops.size
      · rw [hd x hxn] at e; cases e
      · intro hd'
        have : aops.getD x default = default := by
          rw [List.getD_eq_getElem?_getD, List.getElem?_eq_none]
          · rfl
          · rw [List.length_map] at hlen; simp at hlen; omega
        rw [this] at hd'
        cases hd'
    | r i t => have := I.head; cases this
    | e i fl t alt =>
      obtain ⟨⟨h1, _, h3, _⟩, _⟩ := I.tok
      have hi := I.sub i (hd i h1)
      exact absurd rfl (h3 i hi).1.ne
  intro fuel
  induction fuel with
  | zero =>
    intro listed a w pre t ρ h hf I
    have hr : Region.ready .any ops listed = [] := by
      cases e : Region.ready .any ops listed with
      | nil => rfl
      | cons i r =>
        obtain ⟨hi, h1, _⟩ := (hready listed I.size i).1 (by rw [e]; simp)
        have : 0 < (List.range ops.size).countP (fun x => !(listed.getD x false)) := List.countP_pos_iff.2 ⟨i, by simpa using hi, by rw [h1]; rfl⟩
        omega
    exact ⟨hr, hfin _ _ _ _ _ _ _ I hr⟩
  | succ fuel ih =>
    intro listed a w pre t ρ h hf I
    refine ⟨fun hr => hfin _ _ _ _ _ _ _ I hr, fun i hi => ?_⟩
    obtain ⟨hlt, hun, hpreds⟩ := (hready listed I.size i).1 hi
    have hls : i < listed.size := by rw [I.size]; exact hlt
    obtain ⟨bo, hbo, hto⟩ := hget i ops[i] (by simp [hlt])
    rw [List.getElem?_map] at hbo
    obtain ⟨ao, hao, rfl⟩ := Option.map_eq_some_iff.1 hbo
    have hgD : aops.getD i default = ao := by rw [List.getD_eq_getElem?_getD, hao]; rfl
    obtain ⟨hk, hd, hN, hg⟩ := wanted_of hto
    have hdl : ∀ s, ao.d = some s → s < a.tmps.size := fun s hs => by rw [I.sz]; exact hN s (by rw [← hd]; exact hs)
    have hfuel : (List.range ops.size).countP (fun x => !((listed.setIfInBounds i true).getD x false)) ≤ fuel := by
      have := countP_lt (p := fun x : Nat => !(listed.getD x false)) (q := fun x : Nat => !((listed.setIfInBounds i true).getD x false)) (List.range ops.size) (fun y _ hy => by
        rw [getD_set hls] at hy
        split at hy
        · cases hy
        · exact hy) ⟨i, by simpa using hlt, by simp only [hun]; rfl, by rw [getD_set hls, if_pos rfl]; rfl⟩
      omega
    have hclosed : ∀ x, (listed.setIfInBounds i true).getD x false = true → ∀ y ∈ es.getD x [], (listed.setIfInBounds i true).getD y false = true := by
      intro x hx y hy
      rw [getD_set hls] at hx ⊢
      split
      · rfl
      · split at hx
        · rename_i e; subst e; exact hpreds y hy
        · exact I.closed x hx y hy
    have hreach : ∀ {j : Nat}, Reach es j i → listed.getD j false = true := fun hr => hr.closed (T := fun x => listed.getD x false = true) I.closed hpreds
    -- what the operation reads is at hand
    have hslots : (∃ fl' : List Nat, i ∈ pre ∨ ∀ x ∈ pre, Pair3 aops es x i ∧ ((aops.getD x default).isE = false → Reach es x i ∨ x ∈ fl')) → ∀ s ∈ ao.reads, Rep w h.dom (lk ρ s) (a.tmps.getD s undef) := by
      rintro ⟨fl', hcase⟩ s hs
      refine I.env s fun x hx hxu hxd => ?_
      obtain ⟨hxe, _⟩ := I.pen x hx hxu
      by_cases hxi : x = i
      · subst hxi
        obtain ⟨d, h1, h2⟩ := I.own x hx hxe
        rw [hgD] at h1 h2 hxd
        rw [h1] at hxd
        cases hxd
        exact h2 hs
      · have hc2 : Pair3 aops es x i ∨ Pair3 aops es i x := by
          rcases hcase with hy | hy
          · have := List.Pairwise.forall_of_forall_of_flip (R := fun x y => x = y ∨ Pair3 aops es x y ∨ Pair3 aops es y x) (l := pre) (fun x _ => .inl rfl)
              (I.pw.imp fun h => .inr (.inl h)) (I.pw.imp fun h => .inr (.inr h)) hx hy
            rcases this with e | h | h
            · exact absurd e hxi
            · exact .inl h
            · exact .inr h
          · exact .inl (hy x hx).1
        rcases hc2 with ok | ok
        · have := hreach (ok.flow s hxd (by rw [hgD]; exact hs))
          rw [hxu] at this
          cases this
        · have := (ok.anti s hxd (by rw [hgD]; exact hs)).1
          rw [hxe] at this
          cases this
    have hkeep : (∀ s ∈ ao.reads, Rep w h.dom (lk ρ s) (a.tmps.getD s undef)) → ERep w h.dom (keep ao.reads ρ) a := by
      intro hslots s
      by_cases hs : s ∈ ao.reads
      · rw [lk_keep_mem hs]; exact hslots s hs
      · rcases lk_keep ao.reads ρ s with e | e
        · have : lk (keep ao.reads ρ) s = .any := by
            clear e
            generalize ao.reads = l at hs
            induction l with
            | nil => rfl
            | cons k ks ih =>
              simp only [List.mem_cons, not_or] at hs
              simp only [keep, List.map_cons, lk]
              have hb : (s == k) = false := by simpa using hs.1
              rw [hb]
              exact ih hs.2
          rw [this]; exact .any _
        · rw [e]; exact .any _
    have hkr : ∀ x : Operand, (∀ s ∈ slot x, s ∈ ao.reads) → xv G (keep ao.reads ρ) x = xv G ρ x := fun x hs => xv_congr x fun s h => lk_keep_mem (hs s h)
    have hoi : ops[i]? = some ops[i] := Array.getElem?_eq_getElem hlt
    have hne : ∀ {x : Nat}, (listed.setIfInBounds i true).getD x false = false → x ≠ i ∧ listed.getD x false = false := by
      intro x hx
      rw [getD_set hls] at hx
      split at hx
      · cases hx
      · rename_i e; exact ⟨e, hx⟩
    by_cases hpre : i ∈ pre
    · -- it has been walked: it looks again, and sees the same
      obtain ⟨hxe, hpend⟩ := I.pen i hpre hun
      have hsl := hslots ⟨[], .inl hpre⟩
      have hx : ∀ x : Operand, Rep w h.dom (xv G (keep ao.reads ρ) x) (a.eval x) := fun x => rep_xv I.glo (hkeep hsl) x
      have hgd := fun (yes no : Prop) => gd_sound (w := w) (O := h.dom) (ρ := ρ) (a := a) (yes := yes) (no := no) hg (fun s want e => hsl s (reads_guard e))
      rw [hgD] at hxe hpend
      unfold pend at hpend
      cases hkk : ao.k with
      | e k => simp [hkk] at hpend
      | r k =>
        cases hdd : ao.d with
        | none => simp [hkk, hdd] at hpend
        | some d =>
          rw [hkk, hdd] at hpend
          simp only at hpend
          have fin : ∀ c, Rep w h.dom (lk ρ d) c → wpAnyIn (FR ro) 0 P .any ops R fuel (listed.setIfInBounds i true) (a.put (some d) c) w := by
            intro c hc'
            refine ih _ _ _ pre t ρ h hfuel ⟨by simpa using I.size, ?_, hclosed, I.head, I.tok, I.cv, I.walk, I.pw, I.own, I.nd, by rw [put_size]; exact I.sz, ?_, I.heap, I.glo, I.fr, ?_⟩
            · intro j hj
              rw [getD_set hls] at hj
              split at hj
              · rename_i e; rw [e]; exact hpre
              · exact I.sub j hj
            · intro s hs
              by_cases e : s = d
              · subst e
                have := hdl s hdd
                simp [Act.put, Array.getD_eq_getD_getElem?, this]; exact hc'
              · have h1 : (a.put (some d) c).tmps.getD s undef = a.tmps.getD s undef := by
                  simp only [Act.put]
                  rw [Array.getD_eq_getD_getElem?, Array.getElem?_setIfInBounds_ne (Ne.symm e), ← Array.getD_eq_getD_getElem?]
                rw [h1]
                refine I.env s fun z hz hzu hzd => ?_
                by_cases hzi : z = i
                · rw [hzi, hgD, hdd] at hzd
                  cases hzd
                  exact e rfl
                · exact hs z hz (by rw [getD_set hls, if_neg hzi]; exact hzu) hzd
            · intro z hz hzu
              exact I.pen z hz (hne hzu).2
          unfold Go.wpOpIn
          rw [hoi]
          simp only
          rcases hgd _ _ hpend with ⟨hw, hy⟩ | ⟨hw, hno⟩
          · rw [if_pos hw]
            have hev : evR G k (keep ao.reads ρ) h = some (lk ρ d) := by
              rw [← hy]
              exact evR_congr fun x hx => hkr x fun s hs => reads_r hkk hx hs
            obtain ⟨c, r1, r2⟩ := evR_sound ops[i] (hk.trans (by rw [hkk]; rfl)) I.heap (fun x _ => hx x) hev
            refine wpIn_run (fun c e => by rw [e] at hk; rw [hkk] at hk; cases hk) ?_
            rw [r1, Oper.uponIn_value, ← hd, hdd]
            exact fin c r2
          · rw [if_neg (by rw [hw]; simp), ← hd, hdd]
            refine ⟨fun _ _ => trivial, ?_⟩
            exact fin undef (by rw [hno]; exact rep_undef)
    · -- it is one that may act next
      have hal : i ∈ alts t := by
        cases t with
        | nil => exact absurd (I.tok i hlt) hpre
        | r j u => have := I.head; cases this
        | e j fl u alt =>
          rcases I.cv i hlt hpre with q | ⟨z, hz, hzp, hr⟩
          · exact q
          · exact absurd (I.sub z (hreach hr)) hzp
      obtain ⟨fl, t', _, hye, hpairs, hcv, htok, hwalk⟩ := alt_pick t I.tok I.walk hal
      rw [hgD] at hye
      have hsl := hslots ⟨fl, .inr hpairs⟩
      have hx : ∀ x : Operand, Rep w h.dom (xv G (keep ao.reads ρ) x) (a.eval x) := fun x => rep_xv I.glo (hkeep hsl) x
      have hgd := fun (yes no : Prop) => gd_sound (w := w) (O := h.dom) (ρ := ρ) (a := a) (yes := yes) (no := no) hg (fun s want e => hsl s (reads_guard e))
      rw [hao] at hwalk
      simp only [dw1] at hwalk
      cases hkk : ao.k with
      | r k => simp [AOp.isE, hkk] at hye
      | e k =>
        rw [hkk] at hwalk
        simp only at hwalk
        have fin : ∀ c w' av h', HRep w' h' → Rep w' h'.dom av c → Fr w h w' h' → (∀ x ∈ pre, listed.getD x false = false → pend G (aops.getD x default) ρ h') → dwpT P G aops K t' (put ao.d av ρ) h' →
            wpAnyIn (FR ro) 0 P .any ops R fuel (listed.setIfInBounds i true) (a.put ao.d c) w' := by
          intro c w' av h' q1 q2 q3 q4 q5
          obtain ⟨rs, t2, ρ', e2, e3, k1, k2, e4, e5, e6, k3, k4, k5⟩ := advanceT t' (pre ++ [i]) (put ao.d av ρ) htok hcv q5
          have hrsu : ∀ r ∈ rs, (listed.setIfInBounds i true).getD r false = false := by
            intro r hr
            rw [getD_set hls, if_neg (Ne.symm (k4 r hr i (by simp)).ne)]
            cases e : listed.getD r false with
            | false => rfl
            | true => exact absurd rfl (k4 r hr r (by simp [I.sub r e])).ne
          refine ih _ _ _ (pre ++ [i] ++ rs) t2 ρ' h' hfuel ⟨by simpa using I.size, ?_, hclosed, e3, k1, k2, e4, ?_, ?_, by rw [put_nd]; exact I.nd, by rw [put_size]; exact I.sz, ?_, q1, I.glo.keep q3.keeps, I.fr.trans q3, ?_⟩
          · intro j hj
            rw [getD_set hls] at hj
            split at hj
            · rename_i e; simp [e]
            · have := I.sub j hj
              simp [this]
          · refine List.pairwise_append.2 ⟨List.pairwise_append.2 ⟨I.pw, List.pairwise_singleton _ _, fun x hx y hy => ?_⟩, k5, fun x hx y hy => k4 y hy x hx⟩
            obtain rfl : y = i := by simpa using hy
            exact (hpairs x hx).1
          · intro x hx hxe
            simp only [List.mem_append, List.mem_singleton] at hx
            rcases hx with (hx | rfl) | hx
            · exact I.own x hx hxe
            · rw [hgD, hye] at hxe; cases hxe
            · exact k3 x hx
          · intro s hs'
            rw [e5 s fun r hr hd' => hs' r (by simp [hr]) (hrsu r hr) hd', lk_put]
            by_cases e : ao.d = some s
            · rw [if_pos e]
              have := hdl s e
              simp [e, Act.put, Array.getD_eq_getD_getElem?, this]; exact q2
            · rw [if_neg e]
              have h1 : (a.put ao.d c).tmps.getD s undef = a.tmps.getD s undef := by
                cases hdd : ao.d with
                | none => rfl
                | some d =>
                  have hne' : d ≠ s := fun e' => e (by rw [hdd, e'])
                  simp only [Act.put]
                  rw [Array.getD_eq_getD_getElem?, Array.getElem?_setIfInBounds_ne hne', ← Array.getD_eq_getD_getElem?]
              rw [h1]
              refine (I.env s fun z hz hzu hzd => ?_).keep q3.keeps
              have hzy : z ≠ i := fun e' => hpre (e' ▸ hz)
              exact hs' z (by simp [hz]) (by rw [getD_set hls, if_neg hzy]; exact hzu) hzd
          · intro x hx hxu
            obtain ⟨hxy, hxu'⟩ := hne hxu
            simp only [List.mem_append, List.mem_singleton] at hx
            rcases hx with (hx | rfl) | hx
            · obtain ⟨hxe, _⟩ := I.pen x hx hxu'
              refine ⟨hxe, ?_⟩
              have hnr : ¬ Reach es x i := fun hr => by
                have := hreach hr
                rw [hxu'] at this
                cases this
              rw [← pend_congr (ρ := ρ)]
              · exact q4 x hx hxu'
              · intro s hs'
                rw [e5 s fun r hr hd' => ?_, lk_put, if_neg]
                · intro e
                  exact hnr ((hpairs x hx).1.anti s (by rw [hgD]; exact e) hs').2
                · have := ((k4 r hr x (by simp [hx])).anti s hd' hs').1
                  rw [e2 r hr] at this
                  cases this
              · intro d hd'
                rw [e5 d fun r hr hd'' => ?_, lk_put, if_neg]
                · intro e
                  have := ((hpairs x hx).1.out d hd' (by rw [hgD]; exact e)).1
                  rw [hxe] at this
                  cases this
                · have := ((k4 r hr x (by simp [hx])).out d hd' hd'').1
                  rw [hxe] at this
                  cases this
            · exact absurd rfl hxy
            · exact ⟨e2 x hx, e6 x hx⟩
        unfold Go.wpOpIn
        rw [hoi]
        simp only
        rcases hgd _ _ hwalk with ⟨hw, hy⟩ | ⟨hw, hno⟩
        · rw [if_pos hw]
          have hy' : stE P G k (keep ao.reads ρ) h (fun v h' => stb G aops ρ h' fl ∧ dwpT P G aops K t' (put ao.d v ρ) h') := by
            rw [stE_congr (ρ' := ρ) fun x hx => hkr x fun s hs => reads_e hkk hx hs]
            exact hy
          refine stE_sound ops[i] (hk.trans (by rw [hkk]; rfl)) I.heap I.glo (fun x _ => hx x) hy' ?_
          intro c w' av h' ⟨q5, q6⟩ q1 q2 q3
          rw [← hd]
          refine fin c w' av h' q1 q2 q3 ?_ q6
          intro x hx hxu
          obtain ⟨hxe, _⟩ := I.pen x hx hxu
          rcases (hpairs x hx).2 hxe with hr | hm
          · have := hreach hr
            rw [hxu] at this
            cases this
          · have key : ∀ (l : List Nat), stb G aops ρ h' l → ∀ j ∈ l, pend G (aops.getD j default) ρ h' := by
              intro l
              induction l with
              | nil => intro _ j hj; cases hj
              | cons j0 l ihl =>
                intro hst j hj
                simp only [stb] at hst
                rcases List.mem_cons.1 hj with rfl | hj
                · have := hst.1
                  split at this
                  · rename_i o ho
                    rw [List.getD_eq_getElem?_getD, ho]
                    exact this
                  · exact this.elim
                · exact ihl hst.2 j hj
            exact key fl q5 x hm
        · rw [if_neg (by rw [hw]; simp), ← hd]
          exact ⟨fun _ _ => trivial, fin undef w (.tup []) h I.heap rep_undef (Fr.refl _ _) (fun x hx hxu => (I.pen x hx hxu).2) hno⟩
def dokT (ops : List AOp) (es : List (List Nat)) (t : OT) : Bool :=
  tchk ops es ops.length t [] && cchk es ops.length [] t && (List.range ops.length).all fun j => (es.getD j []).all fun y => decide (y < j)
theorem Wp.dregt {N : Nat} {ρ : Env} {h : Heap} {Q : Exit → Env → Heap → Prop} (hm : P.follows .mixedOrders = true) {ops : List AOp} {es : List (List Nat)} {t : OT} (hd : dokT ops es t = true)
    (hq : dwpT P G ops (Q .normal) t ρ h) : Wp P G N (.dregt ops es t) ρ h Q := by
  intro ro c hc w0 h0 a w hs
  obtain ⟨id, l, rfl, ht, hes⟩ := inv_any (ac := .dreg (ops.map AOp.bare) es []) hc
  subst hes
  simp only [dokT, Bool.and_eq_true] at hd
  obtain ⟨⟨d1, d2⟩, d3⟩ := hd
  obtain ⟨hlen, _⟩ := mapM_get ht
  have hsz : ops.length = l.size := by rw [List.length_map] at hlen; rw [← hlen]; simp
  rw [hsz] at d1 d2 d3
  obtain ⟨rs, t', ρ', e2, e3, k1, k2, e4, e5, e6, k3, k4, k5⟩ := advanceT t [] ρ (tchk_ok t [] d1) (cchk_ok d2) hq
  have hs' : Sim G w0 h0 N ρ h a { w with drawn := w.drawn + 1 } := by
    have hk : Keeps w h.dom { w with drawn := w.drawn + 1 } h.dom := ⟨Nat.le_refl _, fun b _ ho => ⟨ho, rfl⟩, fun _ h => h⟩
    refine ⟨hs.nd, hs.sz, hs.env.keep hk, ?_, hs.glo.keep hk, ⟨hs.fr.size, hs.fr.blk, hs.fr.cel, hs.fr.os, hs.fr.tape, hs.fr.out⟩⟩
    intro b x hb
    exact own_keep (hs.heap b x hb) rfl hk
  have hrep : ∀ x : Nat, (Array.replicate l.size false).getD x false = false := fun x => by
    rw [Array.getD_eq_getD_getElem?, Array.getElem?_replicate]
    split <;> rfl
  refine wpIn_region_any hm ?_
  refine dregT_inv (w0 := w0) (h0 := h0) ht (fun j hj y hy => ?_) (R := fun e a' w' => ∃ ρ' h', Q e ρ' h' ∧ Sim G w0 h0 N ρ' h' a' w') (K := Q .normal) (fun ρ' h' a' w' q s => ⟨ρ', h', q, s⟩)
    l.size _ a _ rs t' ρ' h ?_ ⟨by simp, fun i hi => ?_, fun x hx => ?_, e3, by simpa using k1, by simpa using k2, e4, k5, fun x hx _ => k3 x hx, hs'.nd, hs'.sz, fun s hs2 => ?_, hs'.heap, hs'.glo, hs'.fr, fun x hx _ => ⟨e2 x hx, e6 x hx⟩⟩
  · have := List.all_eq_true.1 (List.all_eq_true.1 d3 j (by simpa using hj)) y hy
    simpa using this
  · exact Nat.le_trans List.countP_le_length (by simp)
  · rw [hrep] at hi; cases hi
  · rw [hrep] at hx; cases hx
  · rw [e5 s fun r hr hd' => hs2 r hr (hrep r) hd']
    exact hs'.env s
end
end Go.Ab
namespace Go.Ab
/-- A function, translated: its code and its results. -/
def trF (P : Program) (fn : Func) : Option (ACode × List RV) :=
  match fn.body with
  | some c => match trC P fn.ntmps c, fn.results.toList.mapM (trRV P) with
    | some a, some r => some (a, r)
    | _, _ => none
  | none => none
theorem SpecD.of_tr {P : Program} {G : Glo} {f : FuncId} {fn : Func} {ac : ACode} {rs : List RV} {args : List AV} {h : Heap} {Q : AV → Heap → Prop} (hf : P.funcs[f]? = some fn)
    (ht : trF P fn = some (ac.bare, rs)) (hn : args.length ≤ fn.ntmps) (hw : Wp P G fn.ntmps ac (argEnv args) h (retQ rs Q)) : SpecD P G f args h Q := by
  unfold trF at ht
  split at ht
  · rename_i c hc
    split at ht
    · rename_i a r h1 h2
      cases ht
      exact SpecD.of_body hf hc h1 h2 hn hw
    · cases ht
  · cases ht
theorem Spec.of_tr {P : Program} {G : Glo} {f : FuncId} {fn : Func} {ac : ACode} {rs : List RV} {args : List AV} {h : Heap} {Q : AV → Heap → Prop} (hf : P.funcs[f]? = some fn)
    (ht : trF P fn = some (ac.bare, rs)) (hn : args.length ≤ fn.ntmps) (hw : Wp P G fn.ntmps ac (argEnv args) h (retQ rs Q)) : Spec P G f args h Q := by
  unfold trF at ht
  split at ht
  · rename_i c hc
    split at ht
    · rename_i a r h1 h2
      cases ht
      exact Spec.of_body hf hc h1 h2 hn hw
    · cases ht
  · cases ht
end Go.Ab
