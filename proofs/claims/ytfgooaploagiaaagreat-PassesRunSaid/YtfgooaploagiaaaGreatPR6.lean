/- Joined. -/
import Derived.Test.YtfgooaploagiaaaGreatPR5
set_option linter.unusedSimpArgs false
set_option linter.unusedVariables false
set_option maxRecDepth 10000
section
namespace Go.Ab
def ownV (b : IBk) (v : IVl) : Bool := decide ((b.op v.val.toNat).code = 1) && decide (((b.op v.val.toNat).imm.toNat : Int) = v.reg)
structure KpOk (b : IBk) (kp : Nat → Bool) : Prop where
 acts : ∀ k, k < b.ops.length → 4 ≤ (b.op k).code → kp k = true
 to : ∀ n, n < b.exits.length → namedX b.ops b.last n = true → (b.ex n).to ≠ -1 → kp (b.ex n).to.toNat = true
 map : ∀ n, n < b.exits.length → namedX b.ops b.last n = true → ∀ v ∈ (b.ex n).map, ownV b v = false → kp v.val.toNat = true
 a : ∀ k, k < b.ops.length → kp k = true → 3 ≤ (b.op k).code → kp (b.op k).a.toNat = true
 b : ∀ k, k < b.ops.length → kp k = true → (b.op k).code = 3 ∨ 5 ≤ (b.op k).code → kp (b.op k).b.toNat = true
def upk (kp : Nat → Bool) (n : Nat) : List Int := (List.range n).map fun i => (plN kp i : Int)
theorem upk_get {kp : Nat → Bool} {n i : Nat} (h : i < n) : (upk kp n).getD i 0 = (plN kp i : Int) := by simp [upk, h]
def keptO (kp : Nat → Bool) (b : IBk) (n : Nat) : List IOp := ((List.range n).filter kp).map fun k => ren (upk kp b.ops.length) (b.op k)
def trE (b : IBk) (to : List Int) (e : IEx) : IEx := renE to { e with map := e.map.filter fun v => !ownV b v }
def IBk.dd (b : IBk) (kp : Nat → Bool) : IBk := prB b.pcs (keptO kp b b.ops.length) b.exits b.last (trE b (upk kp b.ops.length))
theorem keptO_len (kp : Nat → Bool) (b : IBk) (n : Nat) : (keptO kp b n).length = plN kp n := by simp [keptO, plN]
theorem keptO_succ (kp : Nat → Bool) (b : IBk) (n : Nat) : keptO kp b (n + 1) = if kp n then keptO kp b n ++ [ren (upk kp b.ops.length) (b.op n)] else keptO kp b n := by
 rw [keptO, keptO, List.range_succ, List.filter_append, List.map_append]
 cases h : kp n <;> simp [h]
theorem keptO_at {kp : Nat → Bool} {b : IBk} {n k : Nat} (hk : k < n) (hm : kp k = true) : (keptO kp b n).getD (plN kp k) IOp.zero = ren (upk kp b.ops.length) (b.op k) := by
 rw [List.getD_eq_getElem?_getD, keptO, List.getElem?_map, filt_at kp hk hm]
 rfl
section
variable {b : IBk} {kp : Nat → Bool}
theorem kept_vin (hk : KpOk b kp) {j : Nat} (hj : j ≤ b.ops.length) {n : Int} (h : vin b.ops j n) (hm : kp n.toNat = true) : vin (keptO kp b b.ops.length) (plN kp j) ((upk kp b.ops.length).getD n.toNat 0) := by
 obtain ⟨h1, h2, h3, h4⟩ := h
 rw [upk_get (by omega)]
 have hlt := plN_lt kp (show n.toNat < j by omega) hm
 have hmo := plN_mono kp hj
 refine ⟨by omega, by omega, by rw [keptO_len]; omega, ?_⟩
 rw [Int.toNat_natCast, keptO_at (by omega) hm]
 unfold valued at h4 ⊢
 rw [ren_code]
 exact h4
theorem named_kept (hk : KpOk b kp) (n : Nat) : namedX (keptO kp b b.ops.length) b.last n = namedX b.ops b.last n := by
 unfold namedX
 congr 1
 rw [Bool.eq_iff_iff, List.any_eq_true, List.any_eq_true]
 constructor
 ·rintro ⟨o, h1, h2⟩
  simp only [keptO, List.mem_map, List.mem_filter, List.mem_range] at h1
  obtain ⟨k, ⟨h3, _⟩, rfl⟩ := h1
  refine ⟨b.op k, ?_, ?_⟩
  ·have : b.op k = b.ops[k] := by simp [IBk.op, h3]
   rw [this]; exact List.getElem_mem h3
  ·rw [ren_code, (ren_xy _ _).1, (ren_xy _ _).2.1] at h2
   exact h2
 ·rintro ⟨o, h1, h2⟩
  obtain ⟨k, hk2, rfl⟩ := List.getElem_of_mem h1
  have e : b.ops[k] = b.op k := by simp [IBk.op, hk2]
  rw [e] at h2
  refine ⟨ren (upk kp b.ops.length) (b.op k), ?_, ?_⟩
  ·simp only [keptO, List.mem_map, List.mem_filter, List.mem_range]
   refine ⟨k, ⟨hk2, hk.acts k hk2 ?_⟩, rfl⟩
   simp only [Bool.or_eq_true, Bool.and_eq_true, decide_eq_true_eq] at h2
   rcases h2 with h | h <;> omega
  ·rw [ren_code, (ren_xy _ _).1, (ren_xy _ _).2.1]
   exact h2
theorem dd_exAt (hc : b.check = 0) (hk : KpOk b kp) {j : Nat} (hj : j ≤ b.ops.length) {x : Int} (h : b.exit x j = true) (hn : namedX b.ops b.last x.toNat = true) : exAt (keptO kp b b.ops.length) b.exits (trE b (upk kp b.ops.length)) (plN kp j) x := by
 obtain ⟨⟨h1, h2⟩, h3, h4⟩ := exit_parts h
 have he : b.exits.getD x.toNat IEx.zero = b.ex x.toNat := rfl
 refine ⟨⟨h1, h2⟩, ?_, fun v hv => ?_⟩
 ·rw [he]
  rcases h3 with h | h
  ·left; simp only [trE, renE]; rw [if_pos h]
  ·right
   have hne : (b.ex x.toNat).to ≠ -1 := by have := h.1; omega
   simp only [trE, renE, if_neg hne]
   exact kept_vin hk hj h (hk.to _ (by omega) hn hne)
 ·rw [he] at hv
  simp only [trE, renE, List.mem_map, List.mem_filter] at hv
  obtain ⟨w, ⟨hw, ho⟩, rfl⟩ := hv
  exact kept_vin hk hj (h4 w hw) (hk.map _ (by omega) hn w hw (by simpa using ho))
theorem reg_pairs (e : IEx) : (∀ i, i < e.map.length → regN e i = true) ↔ (∀ v ∈ e.map, 1 ≤ v.reg ∧ v.reg ≤ 31) ∧ e.map.Pairwise fun u v => u.reg < v.reg := by
 have hvl : ∀ i (hi : i < e.map.length), e.vl i = e.map[i] := fun i hi => by simp [IEx.vl, hi]
 constructor
 ·intro h
  refine ⟨fun v hv => ?_, ?_⟩
  ·obtain ⟨i, hi, rfl⟩ := List.getElem_of_mem hv
   have := (regN_iff e i).1 (h i hi)
   rw [hvl i hi] at this
   exact ⟨this.1, this.2.1⟩
  ·rw [List.pairwise_iff_getElem]
   have step : ∀ i, i + 1 < e.map.length → (e.vl i).reg < (e.vl (i + 1)).reg := fun i hi => by
    have := (regN_iff e (i + 1)).1 (h (i + 1) hi)
    rcases this.2.2 with q | q
    ·omega
    ·simpa using q
   intro i j hi hj hij
   rw [← hvl i hi, ← hvl j hj]
   induction j with
   | zero => omega
   | succ j ih =>
    by_cases q : i = j
    ·subst q; exact step i hj
    ·have := ih (by omega) (by omega)
     have := step j hj
     omega
 ·rintro ⟨h1, h2⟩ i hi
  rw [regN_iff, hvl i hi]
  obtain ⟨q1, q2⟩ := h1 _ (List.getElem_mem hi)
  refine ⟨q1, q2, ?_⟩
  by_cases h0 : i = 0
  ·exact .inl h0
  ·right
   rw [hvl (i - 1) (by omega)]
   exact List.pairwise_iff_getElem.1 h2 (i - 1) i (by omega) hi (by omega)
theorem leafK_tr {n : Nat} {e : IEx} (t : List Int) (h : leafK n e) : leafK n (trE b t e) := by
 refine leafK_ren t ?_
 obtain ⟨h1, h2, h3, h4, h5, h6⟩ := h
 obtain ⟨q1, q2⟩ := (reg_pairs e).1 h6
 exact ⟨h1, h2, h3, h4, h5, (reg_pairs _).2 ⟨fun v hv => q1 v ((List.mem_filter.1 hv).1), q2.filter _⟩⟩
theorem dd_check (hc : b.check = 0) (hk : KpOk b kp) : (b.dd kp).check = 0 := by
 obtain ⟨hp1, hp2, hp3, hp4, hp5⟩ := long_parts hc
 have hp := right_parts hc
 have hlen := keptO_len kp b b.ops.length
 have hple : plN kp b.ops.length ≤ b.ops.length := by
  rw [plN]
  have := List.length_filter_le kp (List.range b.ops.length)
  simpa using this
 have src : ∀ j, j < (keptO kp b b.ops.length).length → ∃ k, k < b.ops.length ∧ kp k = true ∧ plN kp k = j ∧ (keptO kp b b.ops.length).getD j IOp.zero = ren (upk kp b.ops.length) (b.op k) := by
  intro j hj
  rw [hlen] at hj
  obtain ⟨k, h1, h2, h3⟩ := filt_src kp hj
  exact ⟨k, h1, h2, h3, by rw [← h3]; exact keptO_at h1 h2⟩
 have hla : b.exit b.last b.ops.length = true := by
  have := chk_right hc
  simp only [IBk.right, Bool.and_eq_true] at this
  exact this.2
 have hln : namedX b.ops b.last b.last.toNat = true := by
  unfold namedX
  rw [Bool.or_eq_true, decide_eq_true_eq]
  left
  have := (exit_parts hla).1.1
  omega
 have hx : ∀ j, j < (keptO kp b b.ops.length).length → ∀ x, takes ((keptO kp b b.ops.length).getD j IOp.zero) x → exAt (keptO kp b b.ops.length) b.exits (trE b (upk kp b.ops.length)) j x := by
  intro j hj x ht
  obtain ⟨k, h1, h2, h3, h4⟩ := src j hj
  rw [h4] at ht
  unfold takes at ht
  rw [ren_code, (ren_xy _ _).1, (ren_xy _ _).2.1] at ht
  have hex := opR_takes (hp.1 k h1) ht
  rw [← h3]
  refine dd_exAt hc hk (by omega) hex ?_
  have hmem : b.op k ∈ b.ops := by
   have : b.op k = b.ops[k] := by simp [IBk.op, h1]
   rw [this]; exact List.getElem_mem h1
  exact takes_named hmem ht (exit_parts hex).1.1
 have hlast := dd_exAt hc hk (Nat.le_refl _) hla hln
 rw [← hlen] at hlast
 refine pr_check hp4 hp1 hp5 (by omega) hp3 (fun j hj => ?_) (fun j hj => ?_) hx hlast (fun n hn hnm => ⟨leafK_tr _ (leafK_of (hp.2 n hn)), ?_⟩)
 ·obtain ⟨k, h1, h2, h3, h4⟩ := src j hj
  rw [h4]
  have hg : goodAt b.ops k (b.op k) := good_of (hp.1 k h1)
  have hcode := ren_code (upk kp b.ops.length) (b.op k)
  constructor
  ·intro c
   rw [hcode] at c
   obtain ⟨g1, g2⟩ := hg.1 c
   unfold ren
   rw [if_pos c, ← h3]
   exact ⟨kept_vin hk (by omega) g1 (hk.a k h1 h2 (by omega)), kept_vin hk (by omega) g2 (hk.b k h1 h2 (by omega))⟩
  ·intro c
   rw [hcode] at c
   have g1 := hg.2 c
   unfold ren
   rw [if_neg (by omega), if_pos c, ← h3]
   exact kept_vin hk (by omega) g1 (hk.a k h1 h2 (by omega))
 ·obtain ⟨k, h1, h2, h3, h4⟩ := src j hj
  rw [h4, opK_ren]
  exact opK_of (hp.1 k h1)
 ·unfold namedX at hnm
  rw [Bool.or_eq_true, List.any_eq_true, decide_eq_true_eq] at hnm
  rcases hnm with h | ⟨o, h1, h2⟩
  ·rw [← h]; exact hlast
  ·simp only [Bool.or_eq_true, Bool.and_eq_true, decide_eq_true_eq] at h2
   obtain ⟨j, hj, rfl⟩ := List.getElem_of_mem h1
   have e4 : (keptO kp b b.ops.length)[j] = (keptO kp b b.ops.length).getD j IOp.zero := by simp [hj]
   rw [e4] at h2
   exact exAt_mono (hx j hj n h2) (by omega)
structure DdI (b : IBk) (kp : Nat → Bool) (regs : List (BitVec 32)) (k : Nat) (vals vals' : List (BitVec 32)) : Prop where
 n1 : vals.length = k
 n2 : vals'.length = plN kp k
 eq : ∀ i : Nat, i < k → kp i = true → lv vals' (plN kp i : Int) = lv vals i
 inn : ∀ i : Nat, i < k → (b.op i).code = 1 → lv vals i = regs.getD (b.op i).imm.toNat 0#32
def keptR (kp : Nat → Bool) (b : IBk) : Nat → Nat → List IOp
 | 0, _ => []
 | n + 1, k => if kp k then ren (upk kp b.ops.length) (b.op k) :: keptR kp b n (k + 1) else keptR kp b n (k + 1)
theorem keptR_eq (n : Nat) : ∀ k, keptO kp b k ++ keptR kp b n k = keptO kp b (k + n) := by
 induction n with
 | zero => intro k; simp [keptR]
 | succ n ih =>
  intro k
  have := ih (k + 1)
  rw [keptO_succ] at this
  rw [keptR, show k + (n + 1) = k + 1 + n by omega, ← this]
  cases h : kp k <;> simp [h]
theorem dd_run (hc : b.check = 0) (hk : KpOk b kp) (regs : List (BitVec 32)) : ∀ (n k : Nat) (vals vals' : List (BitVec 32)) (M : IRam), k + n = b.ops.length → DdI b kp regs k vals vals' →
  (runN regs (keptR kp b n k) vals' M).1 = (runN regs (b.ops.drop k) vals M).1 ∧ (runN regs (keptR kp b n k) vals' M).2.2 = (runN regs (b.ops.drop k) vals M).2.2 ∧
   ∃ j : Nat, j ≤ b.ops.length ∧ ((runN regs (b.ops.drop k) vals M).1 = none → j = b.ops.length) ∧ (∀ x, (runN regs (b.ops.drop k) vals M).1 = some x → b.exit x j = true) ∧
    (∀ i : Nat, i < j → kp i = true → lv (runN regs (keptR kp b n k) vals' M).2.1 (plN kp i : Int) = lv (runN regs (b.ops.drop k) vals M).2.1 i) ∧
    ∀ i : Nat, i < j → (b.op i).code = 1 → lv (runN regs (b.ops.drop k) vals M).2.1 i = regs.getD (b.op i).imm.toNat 0#32 := by
 have hr := chk_right hc
 have hp := right_parts hc
 intro n
 induction n with
 | zero =>
  intro k vals vals' M hkn hs
  rw [List.drop_of_length_le (by omega)]
  have hkm : k = b.ops.length := by omega
  subst hkm
  exact ⟨rfl, rfl, _, Nat.le_refl _, fun _ => rfl, fun x hx => (by cases hx), hs.eq, hs.inn⟩
 | succ n ih =>
  intro k vals vals' M hkn hs
  have hk2 : k < b.ops.length := by omega
  have hdr : b.ops.drop k = b.op k :: b.ops.drop (k + 1) := by
   rw [List.drop_eq_getElem_cons hk2]; congr 1; simp [IBk.op, hk2]
  have hgo : goodAt b.ops k (b.op k) := good_of (hp.1 k hk2)
  have hex := fun hx => step_exit hr k hk2 regs vals M hx
  have hn1 := hs.n1
  have hn2 := hs.n2
  rw [hdr, keptR]
  have hvk : ∀ i : Nat, i < k → ∀ w, lv (vals ++ [w]) (i : Int) = lv vals (i : Int) := fun i hi w => lv_app (by omega)
  have hpk : ∀ i : Nat, i < k → kp i = true → ∀ w, lv (vals' ++ [w]) (plN kp i : Int) = lv vals' (plN kp i : Int) := fun i hi hm w => lv_app (by have := plN_lt kp hi hm; omega)
  have hinn : ∀ w, ((b.op k).code = 1 → w = regs.getD (b.op k).imm.toNat 0#32) → ∀ i : Nat, i < k + 1 → (b.op i).code = 1 → lv (vals ++ [w]) i = regs.getD (b.op i).imm.toNat 0#32 := fun w hw i hi h1 => by
   by_cases e : i = k
   ·subst e; rw [lv_last (by omega)]; exact hw h1
   ·rw [hvk i (by omega)]; exact hs.inn i (by omega) h1
  have hw1 : (b.op k).code = 1 → (stepN regs (b.op k) vals M).1 = regs.getD (b.op k).imm.toNat 0#32 := fun h1 => by rw [step_in regs h1]
  cases hm : kp k with
  | false =>
   have hc3 : (b.op k).code < 4 := by
    by_cases h4 : (b.op k).code < 4
    ·exact h4
    ·have := hk.acts k hk2 (by omega)
     rw [hm] at this; cases this
   have hx : (stepN regs (b.op k) vals M).2 = (-1, M) := by
    by_cases h1 : 1 ≤ (b.op k).code
    ·exact (step_plain regs h1 (by omega) vals M M).2
    ·unfold stepN
     rw [if_neg (by omega), if_neg (by omega), if_neg (by omega), if_neg (by omega), if_neg (by omega)]
   have hS : DdI b kp regs (k + 1) (vals ++ [(stepN regs (b.op k) vals M).1]) vals' := by
    refine ⟨by simp [hn1], by rw [plN_succ, hm]; simpa using hn2, fun i hi hki => ?_, hinn _ hw1⟩
    have hne : i ≠ k := fun e => by rw [e, hm] at hki; cases hki
    rw [hvk i (by omega)]
    exact hs.eq i (by omega) hki
   have hrun : runN regs (b.op k :: b.ops.drop (k + 1)) vals M = runN regs (b.ops.drop (k + 1)) (vals ++ [(stepN regs (b.op k) vals M).1]) M := by
    simp only [runN, hx]
    rfl
   rw [hrun, if_neg (by simp)]
   exact ih (k + 1) _ _ M (by omega) hS
  | true =>
   rw [if_pos rfl]
   have hva : ∀ m, vin b.ops k m → kp m.toNat = true → lv vals' ((upk kp b.ops.length).getD m.toNat 0) = lv vals m := fun m ⟨h1, h2, _, h4⟩ hkm => by
    rw [upk_get (by omega), hs.eq m.toNat (by omega) hkm]
    congr 1
    omega
   have hst : stepN regs (ren (upk kp b.ops.length) (b.op k)) vals' M = stepN regs (b.op k) vals M :=
    step_ren regs (fun c => ⟨hva _ (hgo.1 c).1 (hk.a k hk2 hm (by omega)), hva _ (hgo.1 c).2 (hk.b k hk2 hm (by omega))⟩) (fun c => hva _ (hgo.2 c) (hk.a k hk2 hm (by omega)))
   generalize hw : stepN regs (b.op k) vals M = w at *
   by_cases hx : w.2.1 = -1
   ·have hS : DdI b kp regs (k + 1) (vals ++ [w.1]) (vals' ++ [w.1]) := by
     refine ⟨by simp [hn1], by rw [plN_succ, hm]; simp [hn2], fun i hi hki => ?_, hinn _ hw1⟩
     by_cases e : i = k
     ·subst e
      rw [lv_last (by omega), lv_last (by omega)]
     ·rw [hvk i (by omega), hpk i (by omega) hki]
      exact hs.eq i (by omega) hki
    have hrun : runN regs (b.op k :: b.ops.drop (k + 1)) vals M = runN regs (b.ops.drop (k + 1)) (vals ++ [w.1]) w.2.2 := by
     simp only [runN, hw]
     rw [if_pos hx]
    have hrun' : runN regs (ren (upk kp b.ops.length) (b.op k) :: keptR kp b n (k + 1)) vals' M = runN regs (keptR kp b n (k + 1)) (vals' ++ [w.1]) w.2.2 := by
     simp only [runN, hst]
     rw [if_pos hx]
    rw [hrun, hrun']
    exact ih (k + 1) _ _ _ (by omega) hS
   ·have hrun : runN regs (b.op k :: b.ops.drop (k + 1)) vals M = (some w.2.1, vals ++ [w.1], w.2.2) := by
     simp only [runN, hw]
     rw [if_neg hx]
    have hrun' : runN regs (ren (upk kp b.ops.length) (b.op k) :: keptR kp b n (k + 1)) vals' M = (some w.2.1, vals' ++ [w.1], w.2.2) := by
     simp only [runN, hst]
     rw [if_neg hx]
    rw [hrun, hrun']
    refine ⟨rfl, rfl, k, by omega, fun h => (by cases h), fun x hx' => (by cases hx'; exact hex hx), fun i hi hki => ?_, fun i hi h1 => ?_⟩
    ·simp only
     rw [hvk i hi, hpk i hi hki]
     exact hs.eq i hi hki
    ·simp only
     rw [hvk i hi]
     exact hs.inn i hi h1
theorem foldR_own {V V' : List (BitVec 32)} {t : List Int} {ow : IVl → Bool} : ∀ (m : List IVl) (r : List (BitVec 32)), (∀ v ∈ m, 0 ≤ v.reg) → m.Pairwise (fun u v => u.reg < v.reg) → (∀ v ∈ m, ow v = true → lv V v.val = r.getD v.reg.toNat 0#32) → (∀ v ∈ m, ow v = false → lv V' (t.getD v.val.toNat 0) = lv V v.val) →
  foldR V' ((m.filter fun v => !ow v).map (renV t)) r = foldR V m r := by
 intro m
 induction m with
 | nil => intro r _ _ _ _; rfl
 | cons v m ih =>
  intro r h0 hp ho hn
  have hr : foldR V (v :: m) r = foldR V m (r.set v.reg.toNat (lv V v.val)) := rfl
  have hp1 := (List.pairwise_cons.1 hp).1
  have hp2 := (List.pairwise_cons.1 hp).2
  have hset : ∀ w, ∀ u ∈ m, (r.set v.reg.toNat w).getD u.reg.toNat 0#32 = r.getD u.reg.toNat 0#32 := fun w u hu => by
   have h1 := hp1 u hu
   have h2 := h0 v (by simp)
   simp only [List.getD_eq_getElem?_getD]
   rw [List.getElem?_set_ne (by omega)]
  cases hv : ow v with
  | true =>
   have e : r.set v.reg.toNat (lv V v.val) = r := by
    rw [ho v (by simp) hv]
    apply List.ext_getElem?
    intro i
    rw [List.getElem?_set]
    by_cases q : v.reg.toNat = i
    ·rw [if_pos q]
     split
     ·rename_i h; rw [← q]; simp [h]
     ·rename_i h; rw [List.getElem?_eq_none (by omega)]
    ·rw [if_neg q]
   rw [hr, e]
   simp only [List.filter_cons, hv, Bool.not_true, Bool.false_eq_true, if_false]
   exact ih r (fun u hu => h0 u (by simp [hu])) hp2 (fun u hu => ho u (by simp [hu])) (fun u hu => hn u (by simp [hu]))
  | false =>
   have h1 := hn v (by simp) hv
   simp only [List.filter_cons, hv, Bool.not_false, if_true, List.map_cons]
   have hl : foldR V' (renV t v :: (m.filter fun v => !ow v).map (renV t)) r = foldR V' ((m.filter fun v => !ow v).map (renV t)) (r.set v.reg.toNat (lv V' (t.getD v.val.toNat 0))) := rfl
   rw [hl, hr, h1]
   exact ih _ (fun u hu => h0 u (by simp [hu])) hp2 (fun u hu hou => by rw [hset _ u hu]; exact ho u (by simp [hu]) hou) (fun u hu => hn u (by simp [hu]))
theorem dd_res (hc : b.check = 0) (hk : KpOk b kp) (regs : List (BitVec 32)) (M : IRam) : (b.dd kp).res regs M = b.res regs M := by
 have hp := right_parts hc
 have hS : DdI b kp regs 0 [] [] := ⟨rfl, rfl, fun i h => by omega, fun i h => by omega⟩
 have hrun := dd_run hc hk regs b.ops.length 0 [] [] M (by omega) hS
 have hkr := keptR_eq (kp := kp) (b := b) b.ops.length 0
 have hk0 : keptO kp b 0 = [] := rfl
 rw [hk0, List.nil_append, Nat.zero_add] at hkr
 rw [hkr, List.drop_zero] at hrun
 obtain ⟨q1, q2, j, qj, q3, q4, q5, q6⟩ := hrun
 have hlast : b.exit b.last b.ops.length = true := by
  have := chk_right hc
  simp only [IBk.right, Bool.and_eq_true] at this
  exact this.2
 have hex : b.exit ((runN regs b.ops [] M).1.getD b.last) j = true := by
  cases hx : (runN regs b.ops [] M).1 with
  | none => rw [q3 hx]; exact hlast
  | some x => exact q4 x hx
 obtain ⟨⟨x1, x2⟩, x3, x4⟩ := exit_parts hex
 have hnm : namedX b.ops b.last ((runN regs b.ops [] M).1.getD b.last).toNat = true := by
  cases hx : (runN regs b.ops [] M).1 with
  | none =>
   unfold namedX
   rw [Bool.or_eq_true, decide_eq_true_eq]
   left
   have := (exit_parts hlast).1.1
   simp only [Option.getD_none]
   omega
  | some x =>
   rw [hx] at x1
   obtain ⟨o, h1, h2⟩ := run_takes regs b.ops [] M x hx
   exact takes_named h1 h2 x1
 have hu : ∀ o ∈ keptO kp b b.ops.length, (o.code = 4 ∨ o.code = 5 ∨ o.code = 6 → 0 ≤ o.x) ∧ (o.code = 5 → 0 ≤ o.y) := by
  intro o ho
  simp only [keptO, List.mem_map, List.mem_filter, List.mem_range] at ho
  obtain ⟨k, ⟨h1, _⟩, rfl⟩ := ho
  exact (sane_ren (to := upk kp b.ops.length) (sane_of (hp.1 k h1))).2
 unfold IBk.dd
 rw [pr_res hu regs M (by rw [q1]; exact x1) (by rw [q1]; exact x2), q1, q2]
 unfold IBk.res resB
 generalize (runN regs b.ops [] M).1.getD b.last = n at *
 have he : b.exits.getD n.toNat IEx.zero = b.ex n.toNat := rfl
 rw [he]
 have hlf := leafK_of (hp.2 n.toNat (by omega))
 rw [he] at hlf
 obtain ⟨r1, r2⟩ := (reg_pairs _).1 hlf.2.2.2.2.2
 have hv : ∀ q, vin b.ops j q → kp q.toNat = true → 0 ≤ (upk kp b.ops.length).getD q.toNat 0 ∧ lv (runN regs (keptO kp b b.ops.length) [] M).2.1 ((upk kp b.ops.length).getD q.toNat 0) = lv (runN regs b.ops [] M).2.1 q := fun q ⟨a1, a2, a3, a4⟩ hq => by
  rw [upk_get (by omega)]
  refine ⟨by omega, ?_⟩
  rw [q5 q.toNat (by omega) hq]
  congr 1
  omega
 have l1 : leaveR (trE b (upk kp b.ops.length) (b.ex n.toNat)) regs (runN regs (keptO kp b b.ops.length) [] M).2.1 = leaveR (b.ex n.toNat) regs (runN regs b.ops [] M).2.1 := by
  refine foldR_own (b.ex n.toNat).map regs (fun v hv => by have := (r1 v hv).1; omega) r2 (fun v hw ho => ?_) (fun v hw ho => (hv _ (x4 v hw) (hk.map _ (by omega) hnm v hw ho)).2)
  obtain ⟨a1, a2, a3, a4⟩ := x4 v hw
  simp only [ownV, Bool.and_eq_true, decide_eq_true_eq] at ho
  have h1 := q6 v.val.toNat (by omega) ho.1
  have e1 : ((v.val.toNat : Nat) : Int) = v.val := by omega
  rw [e1] at h1
  rw [h1]
  congr 1
  omega
 have l2 : leaveP (trE b (upk kp b.ops.length) (b.ex n.toNat)) (runN regs (keptO kp b b.ops.length) [] M).2.1 = leaveP (b.ex n.toNat) (runN regs b.ops [] M).2.1 := by
  unfold leaveP trE renE
  simp only
  rcases x3 with h | h
  ·rw [if_pos h, if_pos rfl, if_pos h]
  ·have hne : (b.ex n.toNat).to ≠ -1 := by have := h.1; omega
   have hvv := hv _ h (hk.to _ (by omega) hnm hne)
   rw [if_neg hne, if_neg hne, if_neg (by omega)]
   exact hvv.2
 simp only
 rw [l1, l2]
 rfl
end
end Go.Ab
end
section
namespace Go.Ab
open Go.Proofs
variable {G : Glo} {h : Heap}
def MkO (g : Heap) (b3 b4 : Nat) (fv : AV) (vo vx : AV) (mo mx : List Bool) (h : Heap) : Prop :=
 b3 ≠ b4 ∧ ∃ h1, Own 1 (Ab.upd (Ab.upd g b3 ⟨[vo, vx], 0⟩) b4 ⟨[fv], 0⟩) vo (mo.map .bool) mo.length h1 ∧ Own 1 h1 vx (mx.map .bool) mx.length h
section
variable {g : Heap} {b3 b4 : Nat} {fv vo vx : AV} {mo mx : List Bool}
theorem MkO.at (hr : MkO g b3 b4 fv vo vx mo mx h) : h b3 = some ⟨[vo, vx], 0⟩ ∧ h b4 = some ⟨[fv], 0⟩ ∧ Sub (Ab.upd (Ab.upd g b3 ⟨[vo, vx], 0⟩) b4 ⟨[fv], 0⟩) h := by
 obtain ⟨hn, h1, o1, o2⟩ := hr
 exact ⟨o2.get (o1.get (by rw [upd_ne hn]; exact upd_same _ _ _)), o2.get (o1.get (upd_same _ _ _)), o1.sub.trans o2.sub⟩
theorem MkO.ops (hr : MkO g b3 b4 fv vo vx mo mx h) (hl : 0 < mo.length) : ∃ bo pre cap sp, vo = .sl bo pre.length mo.length cap ∧ h bo = some ⟨pre ++ mo.map .bool, sp⟩ ∧ bo ≠ b3 ∧ bo ≠ b4 ∧ ∀ mo', mo'.length = mo.length → MkO g b3 b4 fv vo vx mo' mx (Ab.upd h bo ⟨pre ++ mo'.map .bool, sp⟩) := by
 obtain ⟨hn, h1, o1, o2⟩ := hr
 obtain ⟨bo, pre, cap, sp, e1, e2, e3, e4⟩ := own_lie o1 hl
 have n := upd_none e3
 refine ⟨bo, pre, cap, sp, e1, o2.get e2, (upd_none n.2).1, n.1, fun mo' hl' => ⟨hn, _, ?_, o2.upd (.inr ⟨_, e2⟩)⟩⟩
 rw [hl']
 exact e4 _ (by simp [hl'])
theorem MkO.exits (hr : MkO g b3 b4 fv vo vx mo mx h) (hl : 0 < mx.length) : ∃ bx pre cap sp, vx = .sl bx pre.length mx.length cap ∧ h bx = some ⟨pre ++ mx.map .bool, sp⟩ ∧ bx ≠ b3 ∧ bx ≠ b4 ∧ ∀ mx', mx'.length = mx.length → MkO g b3 b4 fv vo vx mo mx' (Ab.upd h bx ⟨pre ++ mx'.map .bool, sp⟩) := by
 obtain ⟨hn, h1, o1, o2⟩ := hr
 obtain ⟨bx, pre, cap, sp, e1, e2, e3, e4⟩ := own_lie o2 hl
 have n := upd_none (o1.sub.none e3)
 refine ⟨bx, pre, cap, sp, e1, e2, (upd_none n.2).1, n.1, fun mx' hl' => ⟨hn, _, o1, ?_⟩⟩
 rw [hl']
 exact e4 _ (by simp [hl'])
end
theorem bools_get (pre : List AV) (l : List Bool) (i : Nat) (hi : i < l.length) : (pre ++ l.map AV.bool)[pre.length + i]? = some (AV.bool (l.getD i false)) := by
 rw [List.getElem?_append_right (by omega), Nat.add_sub_cancel_left]
 simp [hi]
theorem bools_set (pre : List AV) (l : List Bool) (i : Nat) (x : Bool) : (pre ++ l.map AV.bool).set (pre.length + i) (AV.bool x) = pre ++ (l.set i x).map AV.bool := by
 rw [List.set_append_right _ _ (by omega), Nat.add_sub_cancel_left, List.map_set]
def Closed (b : IBk) (S : Nat → Prop) : Prop := ∀ j, j < b.ops.length → S j → ∀ u ∈ usesN (b.op j), S u.toNat
structure AskP (b : IBk) (k : Nat) (mo mo' : List Bool) : Prop where
 len : mo'.length = mo.length
 mono : ∀ j, mo.getD j false = true → mo'.getD j false = true
 self : mo'.getD k false = true
 uses : ∀ j, mo'.getD j false = true → mo.getD j false = true ∨ ∀ u ∈ usesN (b.op j), mo'.getD u.toNat false = true
 least : ∀ S, Closed b S → S k → ∀ j, mo'.getD j false = true → mo.getD j false = true ∨ S j
theorem getD_setB (l : List Bool) (i j : Nat) (x : Bool) : (l.set i x).getD j false = if i = j ∧ j < l.length then x else l.getD j false := by
 rw [List.getD_eq_getElem?_getD, List.getElem?_set]
 by_cases e : i = j
 ·subst e
  by_cases hl : i < l.length
  ·rw [if_pos rfl, if_pos hl, if_pos ⟨rfl, hl⟩]; rfl
  ·rw [if_pos rfl, if_neg hl, if_neg (fun c => hl c.2), List.getD_eq_getElem?_getD, List.getElem?_eq_none (by omega)]
 ·rw [if_neg e, if_neg (fun c => e c.1), List.getD_eq_getElem?_getD]
theorem askop_spec {g : Heap} {b3 b4 : Nat} {vo vx : AV} {mx : List Bool} (b : IBk) (hw : b.wf) (hc : b.check = 0) : ∀ (k : Nat) (mo : List Bool) (h : Heap), k < b.ops.length → mo.length = b.ops.length → MkO g b3 b4 (.fn 138 [] [.ptr b3 0, .cp [bkP b] 0, .ptr b4 0]) vo vx mo mx h →
  Spec Tryz.prog G 138 [.int .i64 k, .ptr b3 0, .cp [bkP b] 0, .ptr b4 0] h (fun _ h' => ∃ mo', AskP b k mo mo' ∧ MkO g b3 b4 (.fn 138 [] [.ptr b3 0, .cp [bkP b] 0, .ptr b4 0]) vo vx mo' mx h') := by
 obtain ⟨hops, hexs⟩ := right_parts hc
 obtain ⟨hs1, hs2, hs3⟩ := hw.hs
 intro k
 induction k using Nat.strongRecOn with
 | ind k ih =>
 intro mo h hk hl hr
 obtain ⟨hb3, hb4, _⟩ := hr.at
 obtain ⟨bo, pre, cap, sp, hvo, hbo, n3, n4, put⟩ := hr.ops (by omega)
 rw [hl] at hvo
 subst hvo
 have hget := bools_get pre mo k (by omega)
 have hsetk := bools_set pre mo k true
 have hll : (pre ++ mo.map AV.bool).length = pre.length + mo.length := by simp
 refine Spec.walk C138ok rfl ?_
 cases hm : mo.getD k false with
 | true =>
  rw [hm] at hget
  simp only [push_cast, simprocAttr, hb3, hbo, hl, hk, hget]
  exact ⟨mo, ⟨rfl, fun _ h => h, hm, fun _ h => .inl h, fun _ _ _ _ h => .inl h⟩, hr⟩
 | false =>
  rw [hm] at hget
  have hr1 := put (mo.set k true) (by simp)
  obtain ⟨kb3, kb4, _⟩ := hr1.at
  simp (disch := omega) only [push_cast, simprocAttr, wrap_i64, toNat_ofInt64, Nat.min_eq_left, Int.toNat_of_nonneg, hb3, hbo, hl, hk, hget, hsetk, hll]
  have hO : b.op k = b.ops.getD k IOp.zero := rfl
  have hu : ∀ u ∈ usesN (b.op k), 0 ≤ u ∧ u < k := by
   intro u hu
   have hg := good_of (hops k hk)
   rw [← hO] at hg
   unfold usesN at hu
   split at hu
   ·rename_i c
    obtain ⟨⟨a1, a2, _⟩, c1, c2, _⟩ := hg.1 c
    simp only [List.mem_cons, List.not_mem_nil, or_false] at hu
    rcases hu with rfl | rfl
    ·exact ⟨a1, a2⟩
    ·exact ⟨c1, c2⟩
   ·split at hu
    ·rename_i c
     obtain ⟨a1, a2, _⟩ := hg.2 c
     simp only [List.mem_cons, List.not_mem_nil, or_false] at hu
     subst hu
     exact ⟨a1, a2⟩
    ·simp at hu
  rw [← hO]
  have hul := usesN_len (b.op k)
  refine ⟨by omega, (Uses_spec (b.op k)).to ?_⟩
  simp only [push_cast, simprocAttr]
  have hgs := fun j => getD_setB mo k j true
  generalize hmo1 : mo.set k true = mo1 at *
  have hl1 : mo1.length = b.ops.length := by rw [← hmo1, List.length_set]; exact hl
  generalize hus : usesN (b.op k) = us at *
  refine lpc.rel [3, 23, 24, 25] (fun m ρ h' => ∃ (i : Nat) (mi : List Bool), m = us.length - i ∧ i ≤ us.length ∧ mi.length = b.ops.length ∧ (∀ j, mo1.getD j false = true → mi.getD j false = true) ∧ (∀ t, t < i → mi.getD (us.getD t 0).toNat false = true) ∧
   (∀ j, mi.getD j false = true → mo1.getD j false = true ∨ ∀ u ∈ usesN (b.op j), mi.getD u.toNat false = true) ∧ (∀ S, Closed b S → S k → ∀ j, mi.getD j false = true → mo1.getD j false = true ∨ S j) ∧
   MkO g b3 b4 (.fn 138 [] [.ptr b3 0, .cp [bkP b] 0, .ptr b4 0]) (.sl bo pre.length b.ops.length cap) vx mi mx h' ∧ ρ = [(3, .ptr b4 0), (23, ints us), (24, .int .i64 (us.length : Int)), (25, .int .i64 (i : Int))])
   ⟨_, 0, mo1, rfl, by omega, hl1, fun _ h => h, fun t h => by omega, fun _ h => .inl h, fun _ _ _ _ h => .inl h, hr1, rfl⟩ ?_
  rintro m _ h2 ⟨i, mi, rfl, hi, hli, p1, p2, p3, p4, hri, rfl⟩
  by_cases hi2 : i < us.length
  ·have hmem : us.getD i 0 ∈ us := by rw [List.getD_eq_getElem?_getD, List.getElem?_eq_getElem hi2]; simp
   obtain ⟨u0, u1⟩ := hu _ hmem
   have heq : (us.getD i 0) = ((us.getD i 0).toNat : Int) := by omega
   have hI := ih (us.getD i 0).toNat (by omega) mi h2 (by omega) hli hri
   rw [← heq] at hI
   obtain ⟨_, jb4, _⟩ := hri.at
   simp only [push_cast, simprocAttr, hi2, jb4]
   refine ⟨⟨_, C138ok.hf, rfl, rfl⟩, hI.mono ?_⟩
   rintro _ h6 ⟨mj, ha, hrj⟩
   simp (disch := omega) only [push_cast, simprocAttr, wrap_i64, toNat_ofInt64, Nat.min_eq_left, Int.toNat_of_nonneg]
   refine ⟨_, _, by omega, .refl _, i + 1, mj, rfl, by omega, by rw [ha.len]; exact hli, fun j h => ha.mono j (p1 j h), fun t ht => ?_, fun j hj => ?_, fun S hS hk' j hj => ?_, hrj, rfl⟩
   ·by_cases e : t = i
    ·rw [e]; exact ha.self
    ·exact ha.mono _ (p2 t (by omega))
   ·rcases ha.uses j hj with h | h
    ·rcases p3 j h with h | h
     ·exact .inl h
     ·exact .inr fun u hu => ha.mono _ (h u hu)
    ·exact .inr h
   ·rcases ha.least S hS (hS k hk hk' _ (by rw [hus]; exact hmem)) j hj with h | h
    ·exact p4 S hS hk' j h
    ·exact .inr h
  ·obtain rfl : i = us.length := by omega
   simp only [push_cast, simprocAttr, hi2]
   have hk1 : mo1.getD k false = true := by rw [hgs, if_pos ⟨rfl, by omega⟩]
   have hsub : ∀ j, mo1.getD j false = true → mo.getD j false = true ∨ j = k := fun j h => by
    rw [hgs] at h
    by_cases e : k = j
    ·exact .inr e.symm
    ·rw [if_neg (fun c => e c.1)] at h; exact .inl h
   have hall : ∀ u ∈ us, mi.getD u.toNat false = true := by
    intro u hu
    obtain ⟨t, ht, rfl⟩ := List.getElem_of_mem hu
    have := p2 t ht
    rw [show us.getD t 0 = us[t] by simp [ht]] at this
    exact this
   refine ⟨mi, ⟨by rw [hli, hl], fun j h => p1 j ?_, p1 k hk1, fun j hj => ?_, fun S hS hk' j hj => ?_⟩, hri⟩
   ·rw [hgs]; split
    ·rfl
    ·exact h
   ·rcases p3 j hj with h | h
    ·rcases hsub j h with h | rfl
     ·exact .inl h
     ·exact .inr (by rw [hus]; exact hall)
    ·exact .inr h
   ·rcases p4 S hS hk' j hj with h | h
    ·rcases hsub j h with h | rfl
     ·exact .inl h
     ·exact .inr hk'
    ·exact .inr h
end Go.Ab
end
section
namespace Go.Ab
open Go.Proofs
variable {G : Glo} {h : Heap}
theorem own_spec (b : IBk) (v : IVl) (h0 : 0 ≤ v.val) (h1 : v.val < b.ops.length) : Spec Tryz.prog G 140 [bkP b, .agg v.cells] h (Is (.bool (ownV b v)) h) := by
 have q : v.val.toNat < b.ops.length := by omega
 have hO : ownV b v = (decide ((b.ops.getD v.val.toNat IOp.zero).code = 1) && decide (((b.ops.getD v.val.toNat IOp.zero).imm.toNat : Int) = v.reg)) := rfl
 rw [hO]
 refine Spec.is C140ok rfl ?_
 generalize hg : b.ops.getD v.val.toNat IOp.zero = o
 have hw : IntKind.i64.wrap (o.imm.toNat : Int) = o.imm.toNat := wrap_i64 (by omega) (by omega)
 simp (disch := omega) only [push_cast, simprocAttr, wrap_i64, toNat_ofInt64, Nat.min_eq_left, Int.toNat_of_nonneg, h0, h1, q, hg]
 intro c hc
 by_cases c1 : o.code = 1
 ·simp only [push_cast, simprocAttr, c1, hw]
  exact ⟨rfl, sub_upd hc (.refl _)⟩
 ·simp only [push_cast, simprocAttr, c1]
  exact ⟨by rw [show (o.code == 1) = false from by simpa using c1]; rfl, sub_upd hc (.refl _)⟩
structure ExP (b : IBk) (n : Nat) (mo mo' : List Bool) : Prop where
 len : mo'.length = mo.length
 mono : ∀ j, mo.getD j false = true → mo'.getD j false = true
 to : (b.ex n).to ≠ -1 → mo'.getD (b.ex n).to.toNat false = true
 map : ∀ v ∈ (b.ex n).map, ownV b v = false → mo'.getD v.val.toNat false = true
 uses : ∀ j, mo'.getD j false = true → mo.getD j false = true ∨ ∀ u ∈ usesN (b.op j), mo'.getD u.toNat false = true
 least : ∀ S, Closed b S → ((b.ex n).to ≠ -1 → S (b.ex n).to.toNat) → (∀ v ∈ (b.ex n).map, ownV b v = false → S v.val.toNat) → ∀ j, mo'.getD j false = true → mo.getD j false = true ∨ S j
abbrev opFn (b : IBk) (b3 b4 : Nat) : AV := .fn 138 [] [.ptr b3 0, .cp [bkP b] 0, .ptr b4 0]
theorem askex_spec {g : Heap} {b3 b4 : Nat} {vo vx : AV} {mx mo : List Bool} (b : IBk) (hw : b.wf) (hc : b.check = 0) {n j0 : Nat} (hx : b.exit n j0 = true) (hl : mo.length = b.ops.length) (hlx : mx.length = b.exits.length) (hr : MkO g b3 b4 (opFn b b3 b4) vo vx mo mx h) :
  Spec Tryz.prog G 139 [.int .i64 n, .ptr b3 0, .cp [bkP b] 0, .ptr b4 0] h (fun _ h' => ∃ mo', ExP b n mo mo' ∧ MkO g b3 b4 (opFn b b3 b4) vo vx mo' (mx.set n true) h') := by
 obtain ⟨hops, hexs⟩ := right_parts hc
 obtain ⟨hs1, hs2, hs3⟩ := hw.hs
 obtain ⟨⟨_, hn⟩, hto, hmap⟩ := exit_parts hx
 have hn' : n < b.exits.length := by omega
 have hex : b.ex ((n : Int)).toNat = b.exits.getD n IEx.zero := rfl
 have hex2 : b.ex n = b.exits.getD n IEx.zero := rfl
 rw [hex] at hto hmap
 have hml := getD_map (n := n) hs3
 have hvin : ∀ x, vin b.ops j0 x → 0 ≤ x ∧ x.toNat < b.ops.length := fun x ⟨a, _, c, _⟩ => ⟨a, by omega⟩
 obtain ⟨hb3, hb4, _⟩ := hr.at
 obtain ⟨bx, pre, cap, sp, hvx, hbx, n3, n4, put⟩ := hr.exits (by omega)
 rw [hlx] at hvx
 subst hvx
 have hsetn := bools_set pre mx n true
 have hll : (pre ++ mx.map AV.bool).length = pre.length + mx.length := by simp
 have hr1 := put (mx.set n true) (by simp)
 obtain ⟨kb3, kb4, _⟩ := hr1.at
 have tail : ∀ (e : IEx) (mo1 : List Bool) (h1 : Heap), b.exits.getD n IEx.zero = e → mo1.length = b.ops.length → MkO g b3 b4 (opFn b b3 b4) vo (.sl bx pre.length b.exits.length cap) mo1 (mx.set n true) h1 → (∀ j, mo.getD j false = true → mo1.getD j false = true) → (e.to ≠ -1 → mo1.getD e.to.toNat false = true) →
   (∀ j, mo1.getD j false = true → mo.getD j false = true ∨ ∀ u ∈ usesN (b.op j), mo1.getD u.toNat false = true) → (∀ S, Closed b S → (e.to ≠ -1 → S e.to.toNat) → ∀ j, mo1.getD j false = true → mo.getD j false = true ∨ S j) →
   wpc Tryz.prog G Tryz.f139.ntmps C139_23 (retQ C139r (fun _ h' => ∃ mo', ExP b n mo mo' ∧ MkO g b3 b4 (opFn b b3 b4) vo (.sl bx pre.length b.exits.length cap) mo' (mx.set n true) h')) [(2, .cp [bkP b] 0), (3, .ptr b4 0), (5, .cp e.cells 0)] h1 := by
  intro e mo1 h1 he hl1 hr1 p1 p2 p3 p4
  rw [he] at hmap hml
  have hem : ∀ v ∈ e.map, 0 ≤ v.val ∧ v.val < b.ops.length := fun v hv => by have := hvin _ (hmap v hv); omega
  simp only [push_cast, simprocAttr]
  refine lpc.rel [2, 3, 27, 28, 29] (fun m ρ h' => ∃ (i : Nat) (mi : List Bool), m = e.map.length - i ∧ i ≤ e.map.length ∧ mi.length = b.ops.length ∧ (∀ j, mo.getD j false = true → mi.getD j false = true) ∧ (e.to ≠ -1 → mi.getD e.to.toNat false = true) ∧
   (∀ t, t < i → ownV b (e.map.getD t IVl.zero) = false → mi.getD (e.map.getD t IVl.zero).val.toNat false = true) ∧
   (∀ j, mi.getD j false = true → mo.getD j false = true ∨ ∀ u ∈ usesN (b.op j), mi.getD u.toNat false = true) ∧ (∀ S, Closed b S → (e.to ≠ -1 → S e.to.toNat) → (∀ v ∈ e.map, ownV b v = false → S v.val.toNat) → ∀ j, mi.getD j false = true → mo.getD j false = true ∨ S j) ∧
   MkO g b3 b4 (opFn b b3 b4) vo (.sl bx pre.length b.exits.length cap) mi (mx.set n true) h' ∧ ρ = [(2, .cp [bkP b] 0), (3, .ptr b4 0), (27, vls e.map), (28, .int .i64 (e.map.length : Int)), (29, .int .i64 (i : Int))])
   ⟨_, 0, mo1, rfl, by omega, hl1, p1, p2, fun t h => by omega, p3, fun S a b _ => p4 S a b, hr1, rfl⟩ ?_
  rintro m _ h2 ⟨i, mi, rfl, hi, hli, q1, q2, q3, q4, q5, hri, rfl⟩
  by_cases hi2 : i < e.map.length
  ·have hmem : e.map.getD i IVl.zero ∈ e.map := by rw [List.getD_eq_getElem?_getD, List.getElem?_eq_getElem hi2]; simp
   obtain ⟨u0, u1⟩ := hem _ hmem
   obtain ⟨_, jb4, _⟩ := hri.at
   generalize hv : e.map.getD i IVl.zero = v at *
   simp only [push_cast, simprocAttr, hi2, hv]
   intro c' hc'
   rw [era_none hc']
   refine (own_spec b v u0 u1).to ?_
   cases ho : ownV b v with
   | true =>
    simp (disch := omega) only [push_cast, simprocAttr, wrap_i64, toNat_ofInt64, Nat.min_eq_left, Int.toNat_of_nonneg]
    refine ⟨_, _, by omega, .refl _, i + 1, mi, rfl, by omega, hli, q1, q2, fun t ht hf => ?_, q4, q5, hri, rfl⟩
    by_cases et : t = i
    ·rw [et, hv, ho] at hf; cases hf
    ·exact q3 t (by omega) hf
   | false =>
    have heq : v.val = (v.val.toNat : Int) := by omega
    have hI := askop_spec (G := G) b hw hc v.val.toNat mi h2 (by omega) hli hri
    rw [← heq] at hI
    simp only [push_cast, simprocAttr, jb4]
    refine ⟨⟨_, C138ok.hf, rfl, rfl⟩, hI.mono ?_⟩
    rintro _ h6 ⟨mj, ha, hrj⟩
    simp (disch := omega) only [push_cast, simprocAttr, wrap_i64, toNat_ofInt64, Nat.min_eq_left, Int.toNat_of_nonneg]
    refine ⟨_, _, by omega, .refl _, i + 1, mj, rfl, by omega, by rw [ha.len]; exact hli, fun j h => ha.mono j (q1 j h), fun h => ha.mono _ (q2 h), fun t ht hf => ?_, fun j hj => ?_, fun S hS h1 h2 j hj => ?_, hrj, rfl⟩
    ·by_cases et : t = i
     ·rw [et, hv]; exact ha.self
     ·exact ha.mono _ (q3 t (by omega) hf)
    ·rcases ha.uses j hj with h | h
     ·rcases q4 j h with h | h
      ·exact .inl h
      ·exact .inr fun u hu => ha.mono _ (h u hu)
     ·exact .inr h
    ·rcases ha.least S hS (h2 v hmem ho) j hj with h | h
     ·exact q5 S hS h1 h2 j h
     ·exact .inr h
  ·obtain rfl : i = e.map.length := by omega
   simp only [push_cast, simprocAttr, hi2]
   have he2 : b.ex n = e := by rw [hex2, he]
   refine ⟨mi, ⟨by rw [hli, hl], q1, by rw [he2]; exact q2, ?_, q4, by rw [he2]; exact q5⟩, hri⟩
   rw [he2]
   intro v hv ho
   obtain ⟨t, ht, rfl⟩ := List.getElem_of_mem hv
   have e1 : e.map.getD t IVl.zero = e.map[t] := by simp [ht]
   have := q3 t ht (by rw [e1]; exact ho)
   rw [e1] at this
   exact this
 refine Spec.walk C139ok rfl ?_
 show wpc _ _ _ (.seq [0, 2, 3] C139_0 (.seq [2, 3, 5] C139_1 (.fz 5 (.seq [2, 3, 5] C139_5 C139_23)))) _ _ _
 generalize C139_23 = Z at tail ⊢
 generalize he : b.exits.getD n IEx.zero = e at *
 have tail := tail e
 simp (disch := omega) only [push_cast, simprocAttr, wrap_i64, toNat_ofInt64, Nat.min_eq_left, Int.toNat_of_nonneg, hb3, hbx, hlx, hn', hsetn, hll, he]
 refine ⟨by omega, fun c' hc' => ?_⟩
 rw [era_none hc']
 by_cases ht : e.to = -1
 ·simp only [push_cast, simprocAttr, ht]
  exact tail mo _ rfl hl hr1 (fun _ h => h) (fun h => absurd ht h) (fun _ h => .inl h) (fun _ _ _ _ h => .inl h)
 ·obtain ⟨t0, t1⟩ := hvin _ (hto.resolve_left ht)
  have heq : e.to = (e.to.toNat : Int) := by omega
  have hI := askop_spec (G := G) b hw hc e.to.toNat mo _ t1 hl hr1
  rw [← heq] at hI
  simp only [push_cast, simprocAttr, ht, kb4]
  refine ⟨⟨_, C138ok.hf, rfl, rfl⟩, hI.mono ?_⟩
  rintro _ h6 ⟨mj, ha, hrj⟩
  simp only [push_cast, simprocAttr]
  exact tail mj _ rfl (by rw [ha.len]; exact hl) hrj ha.mono (fun _ => ha.self) ha.uses (fun S hS h1 j hj => ha.least S hS (h1 ht) j hj)
end Go.Ab
end
section
namespace Go.Ab
open Go.Proofs
variable {G : Glo} {h : Heap}
structure OkS (b : IBk) (S : Nat → Prop) : Prop where
 closed : Closed b S
 acts : ∀ k, k < b.ops.length → 4 ≤ (b.op k).code → S k
 to : ∀ n, n < b.exits.length → namedX b.ops b.last n = true → (b.ex n).to ≠ -1 → S (b.ex n).to.toNat
 map : ∀ n, n < b.exits.length → namedX b.ops b.last n = true → ∀ v ∈ (b.ex n).map, ownV b v = false → S v.val.toNat
noncomputable def askN (b : IBk) (k : Nat) : Bool := @decide (∀ S, OkS b S → S k) (Classical.propDecidable _)
theorem askN_iff (b : IBk) (k : Nat) : askN b k = true ↔ ∀ S, OkS b S → S k := by unfold askN; exact @decide_eq_true_iff _ (Classical.propDecidable _)
structure AskI (b : IBk) (nm ac : Nat → Bool) (mo mx : List Bool) : Prop where
 lo : mo.length = b.ops.length
 lx : mx.length = b.exits.length
 mx : ∀ n, n < b.exits.length → mx.getD n false = nm n
 closed : ∀ j, mo.getD j false = true → ∀ u ∈ usesN (b.op j), mo.getD u.toNat false = true
 acts : ∀ k, ac k = true → mo.getD k false = true
 to : ∀ n, n < b.exits.length → nm n = true → (b.ex n).to ≠ -1 → mo.getD (b.ex n).to.toNat false = true
 map : ∀ n, n < b.exits.length → nm n = true → ∀ v ∈ (b.ex n).map, ownV b v = false → mo.getD v.val.toNat false = true
 least : ∀ S, OkS b S → ∀ j, mo.getD j false = true → S j
section
variable {b : IBk} {nm ac : Nat → Bool} {mo mx mj : List Bool}
theorem AskI.exit (hI : AskI b nm ac mo mx) {n : Nat} (hn : n < b.exits.length) (hm : namedX b.ops b.last n = true) (hp : ExP b n mo mj) : AskI b (fun i => nm i || decide (i = n)) ac mj (mx.set n true) := by
 refine ⟨by rw [hp.len]; exact hI.lo, by rw [List.length_set]; exact hI.lx, fun i hi => ?_, fun j hj => ?_, fun k hk => hp.mono _ (hI.acts k hk), fun i hi hni h => ?_, fun i hi hni v hv ho => ?_, fun S hS j hj => ?_⟩
 ·rw [getD_setB]
  by_cases e : n = i
  ·subst e; rw [if_pos ⟨rfl, by rw [hI.lx]; exact hi⟩]; simp
  ·rw [if_neg (fun c => e c.1), hI.mx i hi, decide_eq_false (fun c => e c.symm), Bool.or_false]
 ·rcases hp.uses j hj with h | h
  ·exact fun u hu => hp.mono _ (hI.closed j h u hu)
  ·exact h
 ·by_cases e : i = n
  ·subst e; exact hp.to h
  ·rw [decide_eq_false e, Bool.or_false] at hni
   exact hp.mono _ (hI.to i hi hni h)
 ·by_cases e : i = n
  ·subst e; exact hp.map v hv ho
  ·rw [decide_eq_false e, Bool.or_false] at hni
   exact hp.mono _ (hI.map i hi hni v hv ho)
 ·rcases hp.least S hS.closed (hS.to n hn hm) (hS.map n hn hm) j hj with h | h
  ·exact hI.least S hS j h
  ·exact h
theorem AskI.op (hI : AskI b nm ac mo mx) {k : Nat} (hk : k < b.ops.length) (h4 : 4 ≤ (b.op k).code) (hp : AskP b k mo mj) : AskI b nm (fun i => ac i || decide (i = k)) mj mx := by
 refine ⟨by rw [hp.len]; exact hI.lo, hI.lx, hI.mx, fun j hj => ?_, fun i hi => ?_, fun i hi hni h => hp.mono _ (hI.to i hi hni h), fun i hi hni v hv ho => hp.mono _ (hI.map i hi hni v hv ho), fun S hS j hj => ?_⟩
 ·rcases hp.uses j hj with h | h
  ·exact fun u hu => hp.mono _ (hI.closed j h u hu)
  ·exact h
 ·by_cases e : i = k
  ·subst e; exact hp.self
  ·simp only [decide_eq_false e, Bool.or_false] at hi
   exact hp.mono _ (hI.acts i hi)
 ·rcases hp.least S hS.closed (hS.acts k hk h4) j hj with h | h
  ·exact hI.least S hS j h
  ·exact h
theorem AskI.congr (hI : AskI b nm ac mo mx) {nm' ac' : Nat → Bool} (h1 : ∀ n, n < b.exits.length → nm' n = nm n) (h2 : ∀ k, ac' k = true → ac k = true) : AskI b nm' ac' mo mx :=
 ⟨hI.lo, hI.lx, fun n hn => by rw [h1 n hn]; exact hI.mx n hn, hI.closed, fun k hk => hI.acts k (h2 k hk), fun n hn h => hI.to n hn (by rw [← h1 n hn]; exact h), fun n hn h => hI.map n hn (by rw [← h1 n hn]; exact h), hI.least⟩
theorem AskI.done (hI : AskI b (namedX b.ops b.last) ac mo mx) (h4 : ∀ k, k < b.ops.length → 4 ≤ (b.op k).code → ac k = true) : mo = (List.range b.ops.length).map (askN b) ∧ mx = (List.range b.exits.length).map (namedX b.ops b.last) := by
 have hS : OkS b (fun k => mo.getD k false = true) := ⟨fun j _ hj u hu => hI.closed j hj u hu, fun k hk hc => hI.acts k (h4 k hk hc), hI.to, hI.map⟩
 refine ⟨List.ext_getElem (by simp [hI.lo]) fun i h1 h2 => ?_, List.ext_getElem (by simp [hI.lx]) fun i h1 h2 => ?_⟩
 ·have e : mo[i] = mo.getD i false := by simp [h1]
  rw [e, List.getElem_map, List.getElem_range, Bool.eq_iff_iff, askN_iff]
  exact ⟨fun h S hS' => hI.least S hS' i h, fun h => h _ hS⟩
 ·have e : mx[i] = mx.getD i false := by simp [h1]
  rw [e, List.getElem_map, List.getElem_range]
  exact hI.mx i (by rw [← hI.lx]; exact h1)
end
theorem askN_ok (b : IBk) (hc : b.check = 0) : KpOk b (askN b) := by
 have hin : ∀ k, k < b.ops.length → askN b k = true → ∀ u ∈ usesN (b.op k), askN b u.toNat = true := by
  intro k hk h u hu
  rw [askN_iff] at h ⊢
  exact fun S hS => hS.closed k hk (h S hS) u hu
 have hkd := fun k hk => kind_of ((right_parts hc).1 k hk)
 have hco : ∀ k, k < b.ops.length → (b.op k).code ≤ 6 := by
  intro k hk
  have := hkd k hk
  change kindN (b.op k) = true at this
  unfold kindN at this
  simp only at this
  (repeat' split at this) <;> first | omega | (cases this)
 refine ⟨fun k hk h4 => (askN_iff b k).2 fun S hS => hS.acts k hk h4, fun n hn hm h => (askN_iff b _).2 fun S hS => hS.to n hn hm h, fun n hn hm v hv ho => (askN_iff b _).2 fun S hS => hS.map n hn hm v hv ho, fun k hk h h3 => ?_, fun k hk h h3 => ?_⟩
 ·refine hin k hk h _ ?_
  unfold usesN
  by_cases c : (b.op k).code = 3 ∨ (b.op k).code = 5 ∨ (b.op k).code = 6
  ·rw [if_pos c]; simp
  ·have := hco k hk
   rw [if_neg c, if_pos (by omega)]; simp
 ·refine hin k hk h _ ?_
  have := hco k hk
  unfold usesN
  rw [if_pos (by omega)]; simp
abbrev exFn (b : IBk) (b3 b4 : Nat) : AV := .fn 139 [] [.ptr b3 0, .cp [bkP b] 0, .ptr b4 0]
theorem askend_spec {g : Heap} {b2 b3 b4 : Nat} {vo vx v32 : AV} {n33 n34 : Int} {nm ac : Nat → Bool} {mo mx : List Bool} {Q : Exit → Env → Heap → Prop} (b : IBk) (hw : b.wf) (hc : b.check = 0) {k : Nat} (hk : k < b.ops.length) (h4 : 4 ≤ (b.op k).code) (hx : b.exit (b.op k).x k = true) (hI : AskI b nm ac mo mx) (hr : MkO g b3 b4 (opFn b b3 b4) vo vx mo mx h)
  (hq : ∀ ρ mj h', lk ρ 2 = .ptr b2 0 → lk ρ 3 = .ptr b3 0 → lk ρ 4 = .ptr b4 0 → lk ρ 5 = exFn b b3 b4 → lk ρ 32 = v32 → lk ρ 33 = .int .i64 n33 → lk ρ 34 = .int .i64 n34 → AskI b (fun i => nm i || decide (i = (b.op k).x.toNat)) (fun i => ac i || decide (i = k)) mj (mx.set (b.op k).x.toNat true) → MkO g b3 b4 (opFn b b3 b4) vo vx mj (mx.set (b.op k).x.toNat true) h' → Q (.exit 2) ρ h') :
  wpc Tryz.prog G Tryz.f108.ntmps C108_29 Q [(2, .ptr b2 0), (3, .ptr b3 0), (4, .ptr b4 0), (5, exFn b b3 b4), (6, .int .i64 k), (7, .cp (b.op k).cells 0), (32, v32), (33, .int .i64 n33), (34, .int .i64 n34)] h := by
 obtain ⟨⟨x0, x1⟩, _, _⟩ := exit_parts hx
 have heq : (b.op k).x = ((b.op k).x.toNat : Int) := by omega
 have hxn : namedX b.ops b.last (b.op k).x.toNat = true := takes_named (o := b.op k) (by show b.ops.getD k IOp.zero ∈ b.ops; rw [List.getD_eq_getElem?_getD, List.getElem?_eq_getElem hk]; simp) (.inl ⟨h4, rfl⟩) x0
 have hE := askex_spec (G := G) (mo := mo) (mx := mx) b hw hc (n := (b.op k).x.toNat) (j0 := k) (by rw [← heq]; exact hx) hI.lo hI.lx hr
 rw [← heq] at hE
 have hop : ∀ nm mo mx mj, AskI b nm ac mo mx → AskP b k mo mj → AskI b nm (fun i => ac i || decide (i = k)) mj mx := fun _ _ _ _ a p => a.op hk h4 p
 generalize b.op k = o at *
 simp only [push_cast, simprocAttr]
 refine ⟨⟨_, C139ok.hf, rfl, rfl⟩, hE.mono ?_⟩
 rintro _ h3 ⟨mj, hp, hrj⟩
 have hI2 := hI.exit (by omega) hxn hp
 obtain ⟨_, jb4, _⟩ := hrj.at
 simp only [push_cast, simprocAttr, jb4]
 refine ⟨⟨_, C138ok.hf, rfl, rfl⟩, (askop_spec (G := G) b hw hc k mj h3 hk hI2.lo hrj).mono ?_⟩
 rintro _ h6 ⟨ml, ha, hrl⟩
 simp only [push_cast, simprocAttr]
 exact hq _ ml _ rfl rfl rfl rfl rfl rfl rfl (hop _ _ _ _ hI2 ha) hrl
theorem fresh1 {h : Heap} {a e : Nat} {A : Blk} (k : Ab.upd h a A e = none) : e ≠ a ∧ h e = none := upd_none k
theorem fresh2 {h : Heap} {a b e : Nat} {A B : Blk} (k : Ab.upd (Ab.upd h a A) b B e = none) : e ≠ b ∧ e ≠ a ∧ h e = none := ⟨(upd_none k).1, fresh1 (upd_none k).2⟩
theorem fresh3 {h : Heap} {a b c e : Nat} {A B C : Blk} (k : Ab.upd (Ab.upd (Ab.upd h a A) b B) c C e = none) : e ≠ c ∧ e ≠ b ∧ e ≠ a ∧ h e = none := ⟨(upd_none k).1, fresh2 (upd_none k).2⟩
theorem fresh4 {h : Heap} {a b c d e : Nat} {A B C D : Blk} (k : Ab.upd (Ab.upd (Ab.upd (Ab.upd h a A) b B) c C) d D e = none) : e ≠ d ∧ e ≠ c ∧ e ≠ b ∧ e ≠ a ∧ h e = none := ⟨(upd_none k).1, fresh3 (upd_none k).2⟩
theorem fresh5 {h : Heap} {a b c d f e : Nat} {A B C D F : Blk} (k : Ab.upd (Ab.upd (Ab.upd (Ab.upd (Ab.upd h a A) b B) c C) d D) f F e = none) : e ≠ f ∧ e ≠ d ∧ e ≠ c ∧ e ≠ b ∧ e ≠ a ∧ h e = none := ⟨(upd_none k).1, fresh4 (upd_none k).2⟩
theorem MkO.upd {g : Heap} {b3 b4 : Nat} {fv vo vx : AV} {mo mx : List Bool} (hr : MkO g b3 b4 fv vo vx mo mx h) {b : Nat} {x y : Blk} (hb : g b = some y) (n3 : b ≠ b3) (n4 : b ≠ b4) : MkO (Ab.upd g b x) b3 b4 fv vo vx mo mx (Ab.upd h b x) := by
 obtain ⟨hn, h1, o1, o2⟩ := hr
 have k0 : (Ab.upd (Ab.upd g b3 ⟨[vo, vx], 0⟩) b4 ⟨[fv], 0⟩) b = some y := by rw [upd_ne n4, upd_ne n3]; exact hb
 have e : Ab.upd (Ab.upd (Ab.upd g b x) b3 ⟨[vo, vx], 0⟩) b4 ⟨[fv], 0⟩ = Ab.upd (Ab.upd (Ab.upd g b3 ⟨[vo, vx], 0⟩) b4 ⟨[fv], 0⟩) b x := by
  rw [upd_comm (h := Ab.upd g b3 ⟨[vo, vx], 0⟩) (Ne.symm n4), upd_comm (h := g) (Ne.symm n3)]
 refine ⟨hn, _, ?_, o2.upd (.inr ⟨_, o1.get k0⟩)⟩
 rw [e]
 exact o1.upd (.inr ⟨_, k0⟩)
theorem Le.aggF {sz n i : Nat} {g h : Heap} {v : AV} {cells L : List AV} (ho : Own sz g v cells n h) (hi : L[i]? = some v) : Le (.agg L) h (.agg (L.set i (.ro cells n))) g := by
 intro w u hw hr
 obtain ⟨cs, rfl, hl, h1, hr1⟩ := rep_agg hr
 obtain ⟨l1, l2⟩ := hrep_less hw ho.sub
 refine ⟨l1, .agg _ _ (by simpa using hl) h1 fun j u c e1 e2 => ?_, fun d hd => ho.sub.none hd⟩
 rw [List.getElem?_set] at e1
 split at e1
 ·rename_i hij
  subst hij
  split at e1
  ·cases e1
   exact (ho.freeze w c hw (hr1 i _ c hi e2)).2.1
  ·cases e1
 ·exact (hr1 j u c e1 e2).keep l2.keeps
theorem dasked_spec (b : IBk) (hw : b.wf) (hc : b.check = 0) : Spec Tryz.prog G 108 [bkP b] h (Is (.agg [.ro (((List.range b.ops.length).map (askN b)).map .bool) b.ops.length, .ro (((List.range b.exits.length).map (namedX b.ops b.last)).map .bool) b.exits.length]) h) := by
 obtain ⟨hops, hexs⟩ := right_parts hc
 obtain ⟨hs1, hs2, hs3⟩ := hw.hs
 have hlast : b.exit b.last b.ops.length = true := by
  have := chk_right hc
  simp only [IBk.right, Bool.and_eq_true] at this
  exact this.2
 refine Spec.weak (Q := fun r h' => ∃ g b3 b4 vo vx, r = .agg [vo, vx] ∧ Sub h g ∧ g b3 = none ∧ g b4 = none ∧ MkO g b3 b4 (opFn b b3 b4) vo vx ((List.range b.ops.length).map (askN b)) ((List.range b.exits.length).map (namedX b.ops b.last)) h') ?_ ?_
 ·refine Spec.walk C108ok rfl ?_
  have fin : ∀ b2 b3 b4 g H vo vx, h b2 = none → b2 ≠ b3 → b2 ≠ b4 → g b2 = some ⟨[.nils, .nils], 0⟩ → Sub h g → g b3 = none → g b4 = none → MkO g b3 b4 (opFn b b3 b4) vo vx (List.replicate b.ops.length false) (List.replicate b.exits.length false) H →
    wpc Tryz.prog G Tryz.f108.ntmps C108_47 (retQ C108r (fun r h' => ∃ g b3 b4 vo vx, r = .agg [vo, vx] ∧ Sub h g ∧ g b3 = none ∧ g b4 = none ∧ MkO g b3 b4 (opFn b b3 b4) vo vx ((List.range b.ops.length).map (askN b)) ((List.range b.exits.length).map (namedX b.ops b.last)) h')) [(1, .cp [bkP b] 0), (2, .ptr b2 0), (3, .ptr b3 0), (4, .ptr b4 0)] H := by
   intro b2 b3 b4 g H vo vx h20 n23 n24 hb2 hs hg3 hg4 hr
   have h2of : ∀ {mo mx H}, MkO g b3 b4 (opFn b b3 b4) vo vx mo mx H → H b2 = some ⟨[.nils, .nils], 0⟩ := fun hr => hr.at.2.2 b2 _ (by rw [upd_ne n24, upd_ne n23]; exact hb2)
   have hA := fun v32 n33 n34 nm ac mo mx Q k h a1 a2 a3 a4 a5 a6 => askend_spec (G := G) (g := g) (b2 := b2) (b3 := b3) (b4 := b4) (vo := vo) (vx := vx) (v32 := v32) (n33 := n33) (n34 := n34) (nm := nm) (ac := ac) (mo := mo) (mx := mx) (Q := Q) (k := k) (h := h) b hw hc a1 a2 a3 a4 a5 a6
   obtain ⟨⟨l0, l1⟩, _, _⟩ := exit_parts hlast
   have hI0 : AskI b (fun _ => false) (fun _ => false) (List.replicate b.ops.length false) (List.replicate b.exits.length false) := by
    have hf : ∀ n j, ¬ ((List.replicate n false).getD j false = true) := fun n j h => by
     rw [List.getD_eq_getElem?_getD, List.getElem?_replicate] at h; split at h <;> simp at h
    exact ⟨by simp, by simp, fun n hn => by have := hf b.exits.length n; simpa using this, fun j h => absurd h (hf _ _), fun _ h => (by cases h), fun _ _ h => (by cases h), fun _ _ h => (by cases h), fun _ _ j h => absurd h (hf _ _)⟩
   have heq : b.last = (b.last.toNat : Int) := by omega
   have hE := askex_spec (G := G) b hw hc (n := b.last.toNat) (j0 := b.ops.length) (by rw [← heq]; exact hlast) hI0.lo hI0.lx hr
   rw [← heq] at hE
   show wpc _ _ _ (.seq [1, 2, 3, 4, 5] C108_4 (.seq [1, 2, 3, 4, 5] C108_5 (.seq [2, 3] (.seq [2, 3, 4, 5, 32, 33, 34] C108_6 (.block 0 (.loop (.seq [2, 3, 4, 5, 32, 33, 34, 35] C108_7 (.seq [2, 3, 4, 5, 32, 33, 34] C108_8 (.seq [2, 3, 4, 5, 32, 33, 34] (.block 1 (.seq [2, 3, 4, 5, 6, 7, 32, 33, 34] C108_9 (.fz 7 (.seq [2, 3, 4, 5, 6, 7, 32, 33, 34, 40] C108_10 (.block 2 (.seq [2, 3, 4, 5, 6, 7, 32, 33, 34] C108_25 C108_29)))))) C108_36)))))) C108_44))) _ _ _
   generalize C108_29 = Y at hA ⊢
   simp only [push_cast, simprocAttr]
   refine ⟨⟨_, C139ok.hf, rfl, rfl⟩, hE.mono ?_⟩
   rintro _ h3 ⟨mj, hp, hrj⟩
   have hI1 := hI0.exit (by omega) (by unfold namedX; rw [decide_eq_true heq, Bool.true_or]) hp
   simp only [push_cast, simprocAttr]
   refine lpc.rel [2, 3, 4, 5, 32, 33, 34] (fun m ρ h' => ∃ (i : Nat) (mo mx : List Bool), m = b.ops.length - i ∧ i ≤ b.ops.length ∧ AskI b (namedX (b.ops.take i) b.last) (fun k => decide (k < i ∧ 4 ≤ (b.op k).code)) mo mx ∧ MkO g b3 b4 (opFn b b3 b4) vo vx mo mx h' ∧
    ρ = [(2, .ptr b2 0), (3, .ptr b3 0), (4, .ptr b4 0), (5, exFn b b3 b4), (32, ops b.ops), (33, .int .i64 (b.ops.length : Int)), (34, .int .i64 (i : Int))]) ⟨_, 0, mj, _, rfl, by omega, hI1.congr (fun n _ => ?_) (fun k hk => by simp at hk), hrj, rfl⟩ ?_
   ·unfold namedX
    rw [Bool.eq_iff_iff]; simp; omega
   rintro m _ h4 ⟨i, mo, mx, rfl, hi, hI, hri, rfl⟩
   by_cases hi2 : i < b.ops.length
   ·have hO : b.ops.getD i IOp.zero = b.op i := rfl
    have hmem : b.op i ∈ b.ops := by show b.ops.getD i IOp.zero ∈ b.ops; rw [List.getD_eq_getElem?_getD, List.getElem?_eq_getElem hi2]; simp
    have htk : b.ops.take (i + 1) = b.ops.take i ++ [b.op i] := by
     rw [List.take_add_one, ← hO]; simp [hi2]
    have hnm := fun n => named_snoc (b.ops.take i) (b.op i) b.last n
    rw [← htk] at hnm
    have hxs := fun x (h : takes (b.op i) x) => opR_takes (hops i hi2) (x := x) h
    have hac : ∀ k, decide (k < i + 1 ∧ 4 ≤ (b.op k).code) = true → (decide (k < i ∧ 4 ≤ (b.op k).code) || decide (k = i)) = true := by
     intro k hk
     simp only [decide_eq_true_eq, Bool.or_eq_true] at hk ⊢
     omega
    have hac0 : ¬ 4 ≤ (b.op i).code → ∀ k, decide (k < i + 1 ∧ 4 ≤ (b.op k).code) = true → decide (k < i ∧ 4 ≤ (b.op k).code) = true := by
     intro h k hk
     simp only [decide_eq_true_eq] at hk ⊢
     refine ⟨?_, hk.2⟩
     have : k ≠ i := fun e => h (by rw [← e]; exact hk.2)
     omega
    obtain ⟨_, jb4, _⟩ := hri.at
    have fin3 : ∀ {nm mo mx H} {R : Nat → Env → Heap → Prop}, 4 ≤ (b.op i).code → AskI b nm (fun k => decide (k < i ∧ 4 ≤ (b.op k).code)) mo mx → MkO g b3 b4 (opFn b b3 b4) vo vx mo mx H → (∀ n, n < b.exits.length → namedX (b.ops.take (i + 1)) b.last n = (nm n || decide (n = (b.op i).x.toNat))) → ∀ Q : Exit → Env → Heap → Prop, (∀ ρ mj mx' h', lk ρ 2 = .ptr b2 0 → lk ρ 3 = .ptr b3 0 → lk ρ 4 = .ptr b4 0 → lk ρ 5 = exFn b b3 b4 → lk ρ 32 = ops b.ops → lk ρ 33 = .int .i64 (b.ops.length : Int) → lk ρ 34 = .int .i64 (i : Int) →
      AskI b (namedX (b.ops.take (i + 1)) b.last) (fun k => decide (k < i + 1 ∧ 4 ≤ (b.op k).code)) mj mx' → MkO g b3 b4 (opFn b b3 b4) vo vx mj mx' h' → Q (.exit 2) ρ h') →
      wpc Tryz.prog G Tryz.f108.ntmps Y Q [(2, .ptr b2 0), (3, .ptr b3 0), (4, .ptr b4 0), (5, exFn b b3 b4), (6, .int .i64 i), (7, .cp (b.op i).cells 0), (32, ops b.ops), (33, .int .i64 (b.ops.length : Int)), (34, .int .i64 (i : Int))] H :=
     fun {nm mo mx H R} h4 hI hr hn Q hq => hA _ _ _ nm _ mo mx Q i H hi2 h4 (hxs _ (.inl ⟨h4, rfl⟩)) hI hr fun ρ mj h' e2 e3 e4 e5 e32 e33 e34 hI' hr' => hq ρ mj _ h' e2 e3 e4 e5 e32 e33 e34 (hI'.congr hn hac) hr'
    by_cases c5 : (b.op i).code = 5
    ·obtain ⟨⟨y0, y1⟩, _, _⟩ := exit_parts (hxs _ (.inr ⟨c5, rfl⟩))
     have yeq : (b.op i).y = ((b.op i).y.toNat : Int) := by omega
     have hEy := askex_spec (G := G) b hw hc (n := (b.op i).y.toNat) (j0 := i) (by rw [← yeq]; exact hxs _ (.inr ⟨c5, rfl⟩)) hI.lo hI.lx hri
     rw [← yeq] at hEy
     have hyn := takes_named (l := b.ops) (last := b.last) hmem (.inr ⟨c5, rfl⟩) y0
     simp only [push_cast, simprocAttr, hi2, hO]
     intro c' hc'
     rw [era_none hc']
     simp only [push_cast, simprocAttr, c5]
     refine ⟨⟨_, C139ok.hf, rfl, rfl⟩, hEy.mono ?_⟩
     rintro _ h6 ⟨mk, hp, hrk⟩
     have hIk := hI.exit (by omega) hyn hp
     simp only [push_cast, simprocAttr]
     refine fin3 (R := fun _ _ _ => True) (by omega) hIk hrk (fun n _ => ?_) _ fun ρ mj mx' h' e2 e3 e4 e5 e32 e33 e34 hI' hr' => ?_
     ·rw [hnm n, c5]
      have x0 := (exit_parts (hxs _ (.inl ⟨by omega, rfl⟩))).1.1
      have a1 : decide ((b.op i).x = (n : Int)) = decide (n = (b.op i).x.toNat) := by rw [decide_eq_decide]; omega
      have a2 : decide ((b.op i).y = (n : Int)) = decide (n = (b.op i).y.toNat) := by rw [decide_eq_decide]; omega
      rw [a1, a2]
      cases namedX (b.ops.take i) b.last n <;> cases decide (n = (b.op i).x.toNat) <;> cases decide (n = (b.op i).y.toNat) <;> rfl
     ·simp (disch := omega) only [push_cast, simprocAttr, wrap_i64, toNat_ofInt64, Nat.min_eq_left, Int.toNat_of_nonneg, e2, e3, e4, e5, e32, e33, e34]
      exact ⟨_, _, by omega, .refl _, i + 1, mj, mx', rfl, by omega, hI', hr', rfl⟩
    ·by_cases c46 : (b.op i).code = 4 ∨ (b.op i).code = 6
     ·have x0 := (exit_parts (hxs _ (.inl ⟨by omega, rfl⟩))).1.1
      have hn46 : ∀ n, n < b.exits.length → namedX (b.ops.take (i + 1)) b.last n = (namedX (b.ops.take i) b.last n || decide (n = (b.op i).x.toNat)) := by
       intro n _
       rw [hnm n]
       have a1 : decide ((b.op i).x = (n : Int)) = decide (n = (b.op i).x.toNat) := by rw [decide_eq_decide]; omega
       have a2 : decide (4 ≤ (b.op i).code) = true := decide_eq_true (by omega)
       have a3 : decide ((b.op i).code = 5) = false := decide_eq_false c5
       rw [a1, a2, a3]
       simp
      have fin4 := fin3 (R := fun _ _ _ => True) (by omega) hI hri hn46
      rcases c46 with c | c
      ·simp only [push_cast, simprocAttr, hi2, hO]
       intro c' hc'
       rw [era_none hc']
       simp only [push_cast, simprocAttr, c]
       refine fin4 _ fun ρ mj mx' h' e2 e3 e4 e5 e32 e33 e34 hI' hr' => ?_
       simp (disch := omega) only [push_cast, simprocAttr, wrap_i64, toNat_ofInt64, Nat.min_eq_left, Int.toNat_of_nonneg, e2, e3, e4, e5, e32, e33, e34]
       exact ⟨_, _, by omega, .refl _, i + 1, mj, mx', rfl, by omega, hI', hr', rfl⟩
      ·simp only [push_cast, simprocAttr, hi2, hO]
       intro c' hc'
       rw [era_none hc']
       simp only [push_cast, simprocAttr, c]
       refine fin4 _ fun ρ mj mx' h' e2 e3 e4 e5 e32 e33 e34 hI' hr' => ?_
       simp (disch := omega) only [push_cast, simprocAttr, wrap_i64, toNat_ofInt64, Nat.min_eq_left, Int.toNat_of_nonneg, e2, e3, e4, e5, e32, e33, e34]
       exact ⟨_, _, by omega, .refl _, i + 1, mj, mx', rfl, by omega, hI', hr', rfl⟩
     ·have hk6 := kind_of (hops i hi2)
      have d4 : ¬ (b.op i).code = 4 := fun e => c46 (.inl e)
      have d6 : ¬ (b.op i).code = 6 := fun e => c46 (.inr e)
      have h4 : ¬ 4 ≤ (b.op i).code := by
       change kindN (b.op i) = true at hk6
       unfold kindN at hk6
       simp only at hk6
       (repeat' split at hk6) <;> first | omega | (cases hk6)
      simp (disch := omega) only [push_cast, simprocAttr, wrap_i64, toNat_ofInt64, Nat.min_eq_left, Int.toNat_of_nonneg, hi2, hO]
      intro c' hc'
      rw [era_none hc']
      simp (disch := omega) only [push_cast, simprocAttr, wrap_i64, toNat_ofInt64, Nat.min_eq_left, Int.toNat_of_nonneg, c5, d4, d6]
      refine ⟨_, _, by omega, .refl _, i + 1, mo, mx, rfl, by omega, hI.congr (fun n _ => ?_) (hac0 h4), hri, rfl⟩
      rw [hnm n, decide_eq_false h4, decide_eq_false c5]
      simp
   ·obtain rfl : i = b.ops.length := by omega
    rw [List.take_length] at hI
    obtain ⟨q1, q2⟩ := hI.done fun k hk h4 => by simp [hk, h4]
    subst q1
    subst q2
    obtain ⟨jb3, _, _⟩ := hri.at
    have jb2 := h2of hri
    simp only [push_cast, simprocAttr, hi2, jb3, jb2]
    exact ⟨_, b3, b4, vo, vx, rfl, sub_upd h20 hs, by rw [upd_ne (Ne.symm n23)]; exact hg3, by rw [upd_ne (Ne.symm n24)]; exact hg4, hri.upd hb2 n23 n24⟩
  show wpc _ _ _ (.seq [1, 2] C108_0 (.seq [1, 2, 3] C108_1 (.seq [1, 2, 3, 4] C108_2 (.seq [1, 2, 3, 4] C108_3 C108_47)))) _ _ _
  generalize C108_47 = Z at fin ⊢
  generalize retQ C108r _ = QQ at fin ⊢
  have fin2 : ∀ b1 bm bq bo bx sp1 sp2, b1 ≠ bm → b1 ≠ bq → b1 ≠ bo → b1 ≠ bx → bm ≠ bq → bm ≠ bo → bm ≠ bx → bq ≠ bo → bq ≠ bx → bo ≠ bx → h b1 = none → h bm = none → h bq = none → h bo = none → h bx = none →
    ∀ H, H = Ab.upd (Ab.upd (Ab.upd (Ab.upd (Ab.upd h b1 ⟨[.nils, .nils], 0⟩) bm ⟨[.sl bo 0 b.ops.length b.ops.length, .sl bx 0 b.exits.length b.exits.length], 0⟩) bq ⟨[opFn b bm bq], 0⟩) bo ⟨List.replicate b.ops.length (.bool false), sp1⟩) bx ⟨List.replicate b.exits.length (.bool false), sp2⟩ → wpc Tryz.prog G Tryz.f108.ntmps Z QQ [(1, .cp [bkP b] 0), (2, .ptr b1 0), (3, .ptr bm 0), (4, .ptr bq 0)] H := by
   intro b1 bm bq bo bx sp1 sp2 n1 n2 n3 n4 n5 n6 n7 n8 n9 n10 h1 h2 h3 h4 h5 H hH
   refine fin b1 bm bq (Ab.upd h b1 ⟨[.nils, .nils], 0⟩) H (.sl bo 0 b.ops.length b.ops.length) (.sl bx 0 b.exits.length b.exits.length) h1 n1 n2 (upd_same _ _ _) (sub_upd h1 (.refl _)) (by rw [upd_ne (Ne.symm n1)]; exact h2) (by rw [upd_ne (Ne.symm n2)]; exact h3) ⟨n5, Ab.upd (Ab.upd (Ab.upd (Ab.upd h b1 ⟨[.nils, .nils], 0⟩) bm ⟨[.sl bo 0 b.ops.length b.ops.length, .sl bx 0 b.exits.length b.exits.length], 0⟩) bq ⟨[opFn b bm bq], 0⟩) bo ⟨List.replicate b.ops.length (.bool false), sp1⟩, ?_, ?_⟩
   ·have := Own.row (sz := 1) (g := Ab.upd (Ab.upd (Ab.upd h b1 ⟨[.nils, .nils], 0⟩) bm ⟨[.sl bo 0 b.ops.length b.ops.length, .sl bx 0 b.exits.length b.exits.length], 0⟩) bq ⟨[opFn b bm bq], 0⟩) bo b.ops.length b.ops.length [] (List.replicate b.ops.length (.bool false)) sp1 (by rw [upd_ne (Ne.symm n8), upd_ne (Ne.symm n6), upd_ne (Ne.symm n3)]; exact h4) (by simp) (by omega)
    rw [List.map_replicate, List.length_replicate]
    exact this
   ·have := Own.row (sz := 1) (g := Ab.upd (Ab.upd (Ab.upd (Ab.upd h b1 ⟨[.nils, .nils], 0⟩) bm ⟨[.sl bo 0 b.ops.length b.ops.length, .sl bx 0 b.exits.length b.exits.length], 0⟩) bq ⟨[opFn b bm bq], 0⟩) bo ⟨List.replicate b.ops.length (.bool false), sp1⟩) bx b.exits.length b.exits.length [] (List.replicate b.exits.length (.bool false)) sp2 (by rw [upd_ne (Ne.symm n10), upd_ne (Ne.symm n9), upd_ne (Ne.symm n7), upd_ne (Ne.symm n4)]; exact h5) (by simp) (by omega)
    rw [List.map_replicate, List.length_replicate, hH]
    exact this
  clear fin
  simp only [push_cast, simprocAttr]
  intro b1 hb1
  refine ⟨⟨by omega, by omega, by omega, fun bo ho => ⟨⟨by omega, by omega, by omega, fun bx hx bm hm bq hq => ?_⟩, fun bm hm => ⟨by omega, by omega, by omega, fun bx hx => ?_⟩⟩⟩, ⟨by omega, by omega, by omega, fun bx hx => ⟨⟨by omega, by omega, by omega, fun bo ho bm hm bq hq => ?_⟩, fun bm hm => ⟨by omega, by omega, by omega, fun bo ho => ?_⟩⟩⟩,
   fun bm hm => ⟨⟨by omega, by omega, by omega, fun bo ho => ⟨by omega, by omega, by omega, fun bx hx => ?_⟩⟩, ⟨by omega, by omega, by omega, fun bx hx => ⟨by omega, by omega, by omega, fun bo ho => ?_⟩⟩⟩⟩
  ·have fbo := fresh1 ho
   have fbx := fresh2 hx
   have fbm := fresh3 hm
   have fbq := fresh4 hq
   refine fin2 b1 bm bq bo bx ((b.ops.length : Int) - (b.ops.length : Int)).toNat ((b.exits.length : Int) - (b.exits.length : Int)).toNat (by omega) (by omega) (by omega) (by omega) (by omega) (by omega) (by omega) (by omega) (by omega) (by omega) hb1 fbm.2.2.2 fbq.2.2.2.2 fbo.2 fbx.2.2 _ ?_
   funext d
   simp only [upd_at]
   (repeat' split) <;> first | rfl | (exfalso; omega)
  ·have fbo := fresh1 ho
   have fbm := fresh2 hm
   have fbx := fresh3 hx
   have km : (Ab.upd (Ab.upd (Ab.upd (Ab.upd h b1 ⟨[AV.nils, AV.nils], 0⟩) bo ⟨List.replicate b.ops.length (AV.bool false), ((b.ops.length : Int) - (b.ops.length : Int)).toNat⟩) bm ⟨[AV.nils, AV.nils], 0⟩) bx ⟨List.replicate b.exits.length (AV.bool false), ((b.exits.length : Int) - (b.exits.length : Int)).toNat⟩) bm = some ⟨[AV.nils, AV.nils], 0⟩ := by rw [upd_ne (by omega : bm ≠ bx)]; exact upd_same _ _ _
   simp only [push_cast, simprocAttr, km]
   intro bq hq
   have fbq := fresh5 hq
   refine fin2 b1 bm bq bo bx ((b.ops.length : Int) - (b.ops.length : Int)).toNat ((b.exits.length : Int) - (b.exits.length : Int)).toNat (by omega) (by omega) (by omega) (by omega) (by omega) (by omega) (by omega) (by omega) (by omega) (by omega) hb1 fbm.2.2 fbq.2.2.2.2.2 fbo.2 fbx.2.2.2 _ ?_
   funext d
   simp only [upd_at]
   (repeat' split) <;> first | rfl | (exfalso; omega)
  ·have fbx := fresh1 hx
   have fbo := fresh2 ho
   have fbm := fresh3 hm
   have fbq := fresh4 hq
   refine fin2 b1 bm bq bo bx ((b.ops.length : Int) - (b.ops.length : Int)).toNat ((b.exits.length : Int) - (b.exits.length : Int)).toNat (by omega) (by omega) (by omega) (by omega) (by omega) (by omega) (by omega) (by omega) (by omega) (by omega) hb1 fbm.2.2.2 fbq.2.2.2.2 fbo.2.2 fbx.2 _ ?_
   funext d
   simp only [upd_at]
   (repeat' split) <;> first | rfl | (exfalso; omega)
  ·have fbx := fresh1 hx
   have fbm := fresh2 hm
   have fbo := fresh3 ho
   have km : (Ab.upd (Ab.upd (Ab.upd (Ab.upd h b1 ⟨[AV.nils, AV.nils], 0⟩) bx ⟨List.replicate b.exits.length (AV.bool false), ((b.exits.length : Int) - (b.exits.length : Int)).toNat⟩) bm ⟨[AV.nils, AV.nils], 0⟩) bo ⟨List.replicate b.ops.length (AV.bool false), ((b.ops.length : Int) - (b.ops.length : Int)).toNat⟩) bm = some ⟨[AV.nils, AV.nils], 0⟩ := by rw [upd_ne (by omega : bm ≠ bo)]; exact upd_same _ _ _
   simp only [push_cast, simprocAttr, km]
   intro bq hq
   have fbq := fresh5 hq
   refine fin2 b1 bm bq bo bx ((b.ops.length : Int) - (b.ops.length : Int)).toNat ((b.exits.length : Int) - (b.exits.length : Int)).toNat (by omega) (by omega) (by omega) (by omega) (by omega) (by omega) (by omega) (by omega) (by omega) (by omega) hb1 fbm.2.2 fbq.2.2.2.2.2 fbo.2.2.2 fbx.2 _ ?_
   funext d
   simp only [upd_at]
   (repeat' split) <;> first | rfl | (exfalso; omega)
  ·have fbm := fresh1 hm
   have fbo := fresh2 ho
   have fbx := fresh3 hx
   have km : (Ab.upd (Ab.upd (Ab.upd (Ab.upd h b1 ⟨[AV.nils, AV.nils], 0⟩) bm ⟨[AV.nils, AV.nils], 0⟩) bo ⟨List.replicate b.ops.length (AV.bool false), ((b.ops.length : Int) - (b.ops.length : Int)).toNat⟩) bx ⟨List.replicate b.exits.length (AV.bool false), ((b.exits.length : Int) - (b.exits.length : Int)).toNat⟩) bm = some ⟨[AV.nils, AV.nils], 0⟩ := by rw [upd_ne (by omega : bm ≠ bx), upd_ne (by omega : bm ≠ bo)]; exact upd_same _ _ _
   simp only [push_cast, simprocAttr, km]
   intro bq hq
   have fbq := fresh5 hq
   refine fin2 b1 bm bq bo bx ((b.ops.length : Int) - (b.ops.length : Int)).toNat ((b.exits.length : Int) - (b.exits.length : Int)).toNat (by omega) (by omega) (by omega) (by omega) (by omega) (by omega) (by omega) (by omega) (by omega) (by omega) hb1 fbm.2 fbq.2.2.2.2.2 fbo.2.2 fbx.2.2.2 _ ?_
   funext d
   simp only [upd_at]
   (repeat' split) <;> first | rfl | (exfalso; omega)
  ·have fbm := fresh1 hm
   have fbx := fresh2 hx
   have fbo := fresh3 ho
   have km : (Ab.upd (Ab.upd (Ab.upd (Ab.upd h b1 ⟨[AV.nils, AV.nils], 0⟩) bm ⟨[AV.nils, AV.nils], 0⟩) bx ⟨List.replicate b.exits.length (AV.bool false), ((b.exits.length : Int) - (b.exits.length : Int)).toNat⟩) bo ⟨List.replicate b.ops.length (AV.bool false), ((b.ops.length : Int) - (b.ops.length : Int)).toNat⟩) bm = some ⟨[AV.nils, AV.nils], 0⟩ := by rw [upd_ne (by omega : bm ≠ bo), upd_ne (by omega : bm ≠ bx)]; exact upd_same _ _ _
   simp only [push_cast, simprocAttr, km]
   intro bq hq
   have fbq := fresh5 hq
   refine fin2 b1 bm bq bo bx ((b.ops.length : Int) - (b.ops.length : Int)).toNat ((b.exits.length : Int) - (b.exits.length : Int)).toNat (by omega) (by omega) (by omega) (by omega) (by omega) (by omega) (by omega) (by omega) (by omega) (by omega) hb1 fbm.2 fbq.2.2.2.2.2 fbo.2.2.2 fbx.2.2 _ ?_
   funext d
   simp only [upd_at]
   (repeat' split) <;> first | rfl | (exfalso; omega)
 ·rintro _ h' ⟨g, b3, b4, vo, vx, rfl, hs, h3, h4, hn, h1, o1, o2⟩
  refine ⟨_, _, ⟨rfl, rfl⟩, ?_⟩
  have e2 := Le.aggF (L := [vo, vx]) (i := 1) o2 rfl
  have e1 := Le.aggF (L := [vo, .ro (((List.range b.exits.length).map (namedX b.ops b.last)).map .bool) ((List.range b.exits.length).map (namedX b.ops b.last)).length]) (i := 0) o1 rfl
  have e3 : Sub h (Ab.upd (Ab.upd g b3 ⟨[vo, vx], 0⟩) b4 ⟨[opFn b b3 b4], 0⟩) := sub_upd (hs.none h4) (sub_upd (hs.none h3) hs)
  have := le_trans e2 (le_trans e1 (le_sub e3 (Le.refl _ _)))
  simpa using this
end Go.Ab
end
section
namespace Go.Ab
open Go.Proofs
variable {G : Glo} {h : Heap}
abbrev boolsV (kp : Nat → Bool) (n : Nat) : AV := .ro (((List.range n).map kp).map .bool) n
def upW (kp : Nat → Bool) (n k : Nat) : List Int := (List.range n).map fun j => if j < k then (plN kp j : Int) else 0
theorem upW_len (kp n k) : (upW kp n k).length = n := by simp [upW]
theorem upW_set (kp : Nat → Bool) {n k : Nat} (hk : k < n) : (upW kp n k).set k (plN kp k : Int) = upW kp n (k + 1) := by
 apply List.ext_getElem
 ·simp [upW]
 ·intro i h1 h2
  have hi : i < n := by simpa [upW] using h2
  rw [List.getElem_set]
  simp only [upW, List.getElem_map, List.getElem_range]
  by_cases e : k = i
  ·subst e; rw [if_pos rfl, if_pos (by omega)]
  ·rw [if_neg e]
   by_cases hik : i < k
   ·rw [if_pos hik, if_pos (by omega)]
   ·rw [if_neg hik, if_neg (by omega)]
theorem upW_all (kp : Nat → Bool) (n : Nat) : upW kp n n = upk kp n := by
 unfold upW upk
 refine List.map_congr_left fun i hi => ?_
 rw [if_pos (by simpa using hi)]
theorem upk_len (kp n) : (upk kp n).length = n := by simp [upk]
theorem renumber_spec (kp : Nat → Bool) (n : Nat) (hn : n ≤ 1000000000000) : Spec Tryz.prog G 109 [boolsV kp n] h (Is (ints (upk kp n)) h) := by
 refine Spec.weak (Q := fun r h' => Own 1 h r ((upk kp n).map (.int .i64)) n h') ?_ ?_
 ·refine Spec.walk C109ok rfl ?_
  simp only [push_cast, simprocAttr]
  refine ⟨by omega, by omega, by omega, fun b hb => ?_⟩
  generalize ((n : Int) - (n : Int)).toNat = sp
  have h0 : Own 1 h (.sl b 0 n n) ((upW kp n 0).map (.int .i64)) n (Ab.upd h b ⟨List.replicate n (.int .i64 0), sp⟩) := by
   have := Own.row (sz := 1) (g := h) b n n [] (List.replicate n (.int .i64 0)) sp hb (by simp) (by omega)
   have e : (upW kp n 0).map (AV.int .i64) = List.replicate n (.int .i64 0) := by
    apply List.ext_getElem
    ·simp [upW]
    ·intro i h1 h2; simp [upW]
   rw [e]
   exact this
  generalize AV.sl b 0 n n = v at *
  generalize Ab.upd h b _ = H at *
  refine lpc.rel [3, 4, 10, 11, 12] (fun m ρ h' => ∃ k : Nat, m = n - k ∧ k ≤ n ∧ Own 1 h v ((upW kp n k).map (.int .i64)) n h' ∧
   ρ = [(3, v), (4, .int .i64 (plN kp k : Int)), (10, boolsV kp n), (11, .int .i64 (n : Int)), (12, .int .i64 (k : Int))]) ⟨_, 0, rfl, by omega, h0, rfl⟩ ?_
  rintro m _ h2 ⟨k, rfl, hk, ho, rfl⟩
  by_cases hk2 : k < n
  ·obtain ⟨bo, pre, cap, sp, rfl, hbo, _, put⟩ := own_lie ho (by omega)
   have hset : (pre ++ (upW kp n k).map (AV.int .i64)).set (pre.length + k) (.int .i64 (plN kp k : Int)) = pre ++ ((upW kp n k).set k (plN kp k : Int)).map (AV.int .i64) := by
    rw [List.set_append_right _ _ (by omega), Nat.add_sub_cancel_left, List.map_set]
   have hlen : (pre ++ (upW kp n k).map (AV.int .i64)).length = pre.length + n := by rw [List.length_append, List.length_map, upW_len]
   have hget : (((List.range n).map kp).map AV.bool)[k]? = some (.bool (kp k)) := by simp [hk2]
   have hle := plN_le kp k
   have hsu := plN_succ kp k
   simp (disch := omega) only [push_cast, simprocAttr, wrap_i64, toNat_ofInt64, Nat.min_eq_left, Int.toNat_of_nonneg, hk2, hbo, hset, hlen, hget]
   rw [upW_set kp hk2]
   have ho2 := put ((upW kp n (k + 1)).map (.int .i64)) (by simp [upW])
   refine ⟨by omega, fun hm => ?_, fun hm => ?_⟩
   ·rw [hm, if_pos rfl] at hsu
    exact ⟨_, _, by omega, .refl _, k + 1, rfl, by omega, ho2, by rw [hsu]; rfl⟩
   ·rw [hm, if_neg (by simp), Nat.add_zero] at hsu
    exact ⟨_, _, by omega, .refl _, k + 1, rfl, by omega, ho2, by rw [hsu]; rfl⟩
  ·obtain rfl : k = n := by omega
   simp only [push_cast, simprocAttr, hk2]
   rw [upW_all] at ho
   exact ho
 ·rintro r h' ho
  refine ⟨_, _, ⟨rfl, rfl⟩, ?_⟩
  have := ho.freeze
  have e : ints (upk kp n) = .ro ((upk kp n).map (.int .i64)) n := by show AV.ro _ _ = _; rw [upk_len]
  rw [e]
  exact this
theorem ddop_spec (o : IOp) (to xs : List Int) (hR : renOK to o) (hx : o.code = 4 ∨ o.code = 5 ∨ o.code = 6 → 0 ≤ o.x ∧ o.x < xs.length) (hy : o.code = 5 → 0 ≤ o.y ∧ o.y < xs.length) (pl : Nat → Nat) (hp : ∀ x : Int, 0 ≤ x → x < xs.length → xs.getD x.toNat 0 = pl x.toNat) (h6 : o.code ≤ 6) :
  Spec Tryz.prog G 110 [.agg o.cells, ints to, ints xs] h (Is (.agg (reX pl (ren to o)).cells) h) := by
 obtain ⟨hR1, hR2⟩ := hR
 refine Spec.is C110ok rfl ?_
 simp only [push_cast, simprocAttr]
 intro b3 hb3 b6 hb6
 have n := upd_none hb6
 have f1 : ¬ b6 = b3 := n.1
 have f2 : ¬ b3 = b6 := fun e => f1 e.symm
 have hs4 : ∀ X Y Z W, Sub h (Ab.upd (Ab.upd (Ab.upd (Ab.upd h b3 X) b6 Y) b3 Z) b6 W) := fun X Y Z W => sub_upd n.2 (sub_upd hb3 (sub_upd n.2 (sub_upd hb3 (.refl _))))
 have hs3 : ∀ X W, Sub h (Ab.upd (Ab.upd h b3 X) b6 W) := fun X W => sub_upd n.2 (sub_upd hb3 (.refl _))
 by_cases c5 : o.code = 5
 ·obtain ⟨⟨a0, a1⟩, b0, b1⟩ := hR1 (by omega)
  obtain ⟨x0, x1⟩ := hx (by omega)
  obtain ⟨y0, y1⟩ := hy c5
  have p1 := hp _ x0 x1
  have p2 := hp _ y0 y1
  have q1 : o.a.toNat < to.length := by omega
  have q2 : o.b.toNat < to.length := by omega
  have q3 : o.x.toNat < xs.length := by omega
  have q4 : o.y.toNat < xs.length := by omega
  have hre : reX pl (ren to o) = ⟨5, to.getD o.a.toNat 0, to.getD o.b.toNat 0, o.imm, pl o.x.toNat, pl o.y.toNat⟩ := by unfold ren reX; simp [c5]
  simp (disch := omega) only [push_cast, simprocAttr, wrap_i64, toNat_ofInt64, Nat.min_eq_left, Int.toNat_of_nonneg, upd_at, f1, f2, a0, a1, b0, b1, x0, x1, y0, y1, q1, q2, q3, q4, p1, p2, c5]
  exact ⟨by rw [hre], hs4 _ _ _ _⟩
 by_cases c6 : o.code = 6
 ·obtain ⟨⟨a0, a1⟩, b0, b1⟩ := hR1 (by omega)
  obtain ⟨x0, x1⟩ := hx (by omega)
  have p1 := hp _ x0 x1
  have q1 : o.a.toNat < to.length := by omega
  have q2 : o.b.toNat < to.length := by omega
  have q3 : o.x.toNat < xs.length := by omega
  have hre : reX pl (ren to o) = ⟨6, to.getD o.a.toNat 0, to.getD o.b.toNat 0, o.imm, pl o.x.toNat, o.y⟩ := by unfold ren reX; simp [c6]
  simp (disch := omega) only [push_cast, simprocAttr, wrap_i64, toNat_ofInt64, Nat.min_eq_left, Int.toNat_of_nonneg, upd_at, f1, f2, a0, a1, b0, b1, x0, x1, q1, q2, q3, p1, c6]
  exact ⟨by rw [hre], hs4 _ _ _ _⟩
 by_cases c3 : o.code = 3
 ·obtain ⟨⟨a0, a1⟩, b0, b1⟩ := hR1 (by omega)
  have q1 : o.a.toNat < to.length := by omega
  have q2 : o.b.toNat < to.length := by omega
  have hre : reX pl (ren to o) = ⟨3, to.getD o.a.toNat 0, to.getD o.b.toNat 0, o.imm, o.x, o.y⟩ := by unfold ren reX; simp [c3]
  simp (disch := omega) only [push_cast, simprocAttr, wrap_i64, toNat_ofInt64, Nat.min_eq_left, Int.toNat_of_nonneg, upd_at, f1, f2, a0, a1, b0, b1, q1, q2, c3]
  exact ⟨by rw [hre], hs4 _ _ _ _⟩
 by_cases c4 : o.code = 4
 ·obtain ⟨a0, a1⟩ := hR2 (by omega)
  obtain ⟨x0, x1⟩ := hx (by omega)
  have p1 := hp _ x0 x1
  have q1 : o.a.toNat < to.length := by omega
  have q3 : o.x.toNat < xs.length := by omega
  have hre : reX pl (ren to o) = ⟨4, to.getD o.a.toNat 0, o.b, o.imm, pl o.x.toNat, o.y⟩ := by unfold ren reX; simp [c4]
  simp (disch := omega) only [push_cast, simprocAttr, wrap_i64, toNat_ofInt64, Nat.min_eq_left, Int.toNat_of_nonneg, upd_at, f1, f2, a0, a1, x0, x1, q1, q3, p1, c4]
  exact ⟨by rw [hre], hs4 _ _ _ _⟩
 ·have hre : reX pl (ren to o) = o := by unfold ren; rw [if_neg (by omega), if_neg c4]; exact reX0 pl (by omega)
  simp (disch := omega) only [push_cast, simprocAttr, wrap_i64, toNat_ofInt64, Nat.min_eq_left, Int.toNat_of_nonneg, upd_at, f1, f2, c5, c6, c3, c4]
  exact ⟨by rw [hre], hs3 _ _⟩
def mapD (b : IBk) (to : List Int) (m : List IVl) (k : Nat) : List IVl := ((m.take k).filter fun v => !ownV b v).map (renV to)
theorem mapD_succ (b : IBk) (to : List Int) (m : List IVl) (k : Nat) (hk : k < m.length) : mapD b to m (k + 1) = if ownV b (m.getD k IVl.zero) then mapD b to m k else mapD b to m k ++ [renV to (m.getD k IVl.zero)] := by
 unfold mapD
 rw [List.take_add_one, List.filter_append, List.map_append]
 cases ho : ownV b (m.getD k IVl.zero) <;> simp [hk] at ho ⊢ <;> simp [ho]
theorem ddexit_spec (b : IBk) (e : IEx) (to : List Int) (hlen : to.length = b.ops.length) (hok : exOK to e) (hl : e.map.length ≤ 1000000000000) :
  Spec Tryz.prog G 111 [bkP b, .agg e.cells, ints to] h (fun r h' => ∃ g w, r = .agg (exC (trE b to e) w) ∧ Sub h g ∧ Own 2 g w ((trE b to e).map.flatMap IVl.cells) (trE b to e).map.length h') := by
 obtain ⟨ok1, ok2⟩ := hok
 have hmE : (trE b to e).map = mapD b to e.map e.map.length := by unfold trE renE mapD; simp only [List.take_length]
 have tail : ∀ b4 b6 e1 Z H, b6 ≠ b4 → h b4 = none → h b6 = none → exC (trE b to e) = exC e1 → H = Ab.upd (Ab.upd h b4 ⟨exC e1 .nils, 0⟩) b6 ⟨Z, 0⟩ → Z.length = 5 →
   wpc Tryz.prog G Tryz.f111.ntmps C111_27 (retQ C111r (fun r h' => ∃ g w, r = .agg (exC (trE b to e) w) ∧ Sub h g ∧ Own 2 g w ((trE b to e).map.flatMap IVl.cells) (trE b to e).map.length h')) [(0, bkP b), (2, ints to), (4, .ptr b4 0), (6, .ptr b6 0), (7, vls e.map)] H := by
  rintro b4 b6 e1 Z H n64 h4 h6 hex rfl hZ
  rw [hex]
  simp only [push_cast, simprocAttr]
  refine lpc.rel [0, 2, 4, 6, 22, 23, 24] (fun m ρ h' => ∃ (k : Nat) (w : AV), m = e.map.length - k ∧ k ≤ e.map.length ∧ Own 2 (Ab.upd (Ab.upd h b4 ⟨exC e1 w, 0⟩) b6 ⟨Z, 0⟩) w ((mapD b to e.map k).flatMap IVl.cells) (mapD b to e.map k).length h' ∧
   ρ = [(0, bkP b), (2, ints to), (4, .ptr b4 0), (6, .ptr b6 0), (22, vls e.map), (23, .int .i64 (e.map.length : Int)), (24, .int .i64 (k : Int))]) ⟨_, 0, .nils, rfl, by omega, .nil, rfl⟩ ?_
  rintro m _ h2 ⟨k, w, rfl, hk, ho, rfl⟩
  have k4 : (Ab.upd (Ab.upd h b4 ⟨exC e1 w, 0⟩) b6 ⟨Z, 0⟩) b4 = some ⟨exC e1 w, 0⟩ := by rw [upd_ne (Ne.symm n64)]; exact upd_same _ _ _
  have k6 : (Ab.upd (Ab.upd h b4 ⟨exC e1 w, 0⟩) b6 ⟨Z, 0⟩) b6 = some ⟨Z, 0⟩ := upd_same _ _ _
  have j4 := ho.get k4
  have j6 := ho.get k6
  have x4 : (exC e1 w)[4]? = some w := rfl
  have xl : (exC e1 w).length = 5 := rfl
  by_cases hk2 : k < e.map.length
  ·have hv2 : 0 ≤ (e.map.getD k IVl.zero).val ∧ (e.map.getD k IVl.zero).val < to.length := ok2 _ (by rw [List.getD_eq_getElem?_getD, List.getElem?_eq_getElem hk2]; simp)
   have hsu := mapD_succ b to e.map k hk2
   have hmk : (mapD b to e.map k).length ≤ k := by unfold mapD; rw [List.length_map]; exact Nat.le_trans (List.length_filter_le _ _) (by simp; omega)
   generalize hv : e.map.getD k IVl.zero = v at *
   obtain ⟨v0, v1⟩ := hv2
   have q : v.val.toNat < to.length := by omega
   simp only [push_cast, simprocAttr, hk2, hv]
   intro c' hc'
   rw [era_none hc']
   refine (own_spec b v v0 (by omega)).to ?_
   cases hw : ownV b v with
   | true =>
    rw [hw, if_pos rfl] at hsu
    simp (disch := omega) only [push_cast, simprocAttr, wrap_i64, toNat_ofInt64, Nat.min_eq_left, Int.toNat_of_nonneg]
    exact ⟨_, _, by omega, .refl _, k + 1, w, rfl, by omega, by rw [hsu]; exact ho, rfl⟩
   | false =>
    rw [hw, if_neg (by simp)] at hsu
    simp (disch := omega) only [push_cast, simprocAttr, wrap_i64, toNat_ofInt64, Nat.min_eq_left, Int.toNat_of_nonneg, j4, x4, v0, v1, q]
    refine Own.app ho (m := 1) rfl (by omega) (by omega) fun w5 h5 o5 => ?_
    have hone := o5.one
    have j45 := o5.get k4
    have xs : (exC e1 w).set 4 w5 = exC e1 w5 := rfl
    simp (disch := omega) only [push_cast, simprocAttr, wrap_i64, toNat_ofInt64, Nat.min_eq_left, Int.toNat_of_nonneg, j45, hone, xl, xs]
    refine ⟨_, _, by omega, .refl _, k + 1, w5, rfl, by omega, ?_, rfl⟩
    have o6 := o5.upd (b := b4) (x := ⟨exC e1 w5, 0⟩) (.inr ⟨_, k4⟩)
    rw [upd_comm (h := Ab.upd h b4 ⟨exC e1 w, 0⟩) n64, upd_upd] at o6
    rw [hsu, List.flatMap_append, List.length_append]
    exact o6
  ·obtain rfl : k = e.map.length := by omega
   simp (disch := omega) only [push_cast, simprocAttr, wrap_i64, toNat_ofInt64, Nat.min_eq_left, Int.toNat_of_nonneg, hk2, j4, j6, xl, hZ]
   rw [hmE]
   have oF := ho.upd (b := b6) (x := ⟨exC e1 w, 0⟩) (.inr ⟨_, k6⟩)
   exact ⟨Ab.upd (Ab.upd (Ab.upd h b4 ⟨exC e1 w, 0⟩) b6 ⟨Z, 0⟩) b6 ⟨exC e1 w, 0⟩, w, rfl, sub_upd h6 (sub_upd h6 (sub_upd h4 (.refl _))), oF⟩
 refine Spec.walk C111ok rfl ?_
 show wpc _ _ _ (.seq [0, 2, 4, 6] C111_0 (.seq [0, 2, 4, 6, 7] C111_1 (.seq [0, 2, 4, 6, 7] C111_2 (.seq [0, 2, 4, 6, 7] C111_6 C111_27)))) _ _ _
 generalize C111_27 = Y at tail ⊢
 simp only [push_cast, simprocAttr]
 intro b4 hb4 b6 hb6
 have n := upd_none hb6
 have f1 : ¬ b6 = b4 := n.1
 have f2 : ¬ b4 = b6 := fun e => f1 e.symm
 have e4 : e.cells[4]? = some (vls e.map) := rfl
 have es4 : e.cells.set 4 .nils = exC e .nils := rfl
 have x2 : (exC e .nils)[2]? = some (.int .i64 e.to) := rfl
 have xl : (exC e .nils).length = 5 := rfl
 have xs : ∀ x : Int, (exC e .nils).set 2 (.int .i64 x) = exC { e with to := x } .nils := fun _ => rfl
 by_cases ht : e.to = -1
 ·simp only [push_cast, simprocAttr, upd_at, f1, f2, e4, es4, x2, xl, ht]
  refine tail b4 b6 e [.int .i64 0, .int .u32 0, .int .i64 0, .int .i64 0, .nils] _ f1 hb4 n.2 ?_ ?_ rfl
  ·funext w
   unfold trE renE
   rw [if_pos ht]
   unfold exC
   rw [ht]
  ·rw [upd_comm (h := Ab.upd h b4 ⟨e.cells, 0⟩) f1, upd_upd]
 ·have q : 0 ≤ e.to ∧ e.to < to.length := by omega
  obtain ⟨q0, q1⟩ := q
  have q2 : e.to.toNat < to.length := by omega
  simp (disch := omega) only [push_cast, simprocAttr, wrap_i64, toNat_ofInt64, Nat.min_eq_left, Int.toNat_of_nonneg, upd_at, f1, f2, e4, es4, x2, xl, ht, q0, q1, q2, xs]
  refine tail b4 b6 { e with to := to.getD e.to.toNat 0 } [.int .i64 0, .int .u32 0, .int .i64 0, .int .i64 0, .nils] _ f1 hb4 n.2 ?_ ?_ rfl
  ·funext w
   unfold trE renE
   rw [if_neg ht]
   rfl
  ·rw [upd_comm (h := Ab.upd h b4 ⟨e.cells, 0⟩) f1, upd_upd]
end Go.Ab
end
section
namespace Go.Ab
open Go.Proofs
variable {G : Glo} {h : Heap}
theorem own_small {sz n : Nat} {g h' : Heap} {v : AV} {c : List AV} (hs : Sub h g) (ho : Own sz g v c n h') : ∃ h2, Own sz h v c n h2 ∧ Sub h2 h' := by
 cases ho with
 | nil => exact ⟨h, .nil, hs⟩
 | row b n cap pre cells sp hb hl hc =>
  refine ⟨_, .row b n cap pre c sp (hs.none hb) hl hc, fun d y hd => ?_⟩
  rw [upd_at] at hd ⊢
  by_cases e : d = b
  ·rw [if_pos e] at hd ⊢; exact hd
  ·rw [if_neg e] at hd ⊢; exact hs d y hd
theorem ddexit_spec' (b : IBk) (e : IEx) (to : List Int) (hlen : to.length = b.ops.length) (hok : exOK to e) (hl : e.map.length ≤ 1000000000000) :
  Spec Tryz.prog G 111 [bkP b, .agg e.cells, ints to] h (fun r h' => ∃ w, r = .agg (exC (trE b to e) w) ∧ Own 2 h w ((trE b to e).map.flatMap IVl.cells) (trE b to e).map.length h') := by
 refine Spec.weak (ddexit_spec b e to hlen hok hl) ?_
 rintro _ h' ⟨g, w, rfl, hs, ho⟩
 obtain ⟨h2, o2, s2⟩ := own_small hs ho
 exact ⟨_, h2, ⟨w, rfl, o2⟩, le_sub s2 (Le.refl _ _)⟩
theorem deadDo_spec (b : IBk) (hw : b.wf) (hc : b.check = 0) : Spec Tryz.prog G 69 [bkP b] h (Is (.tup [bkP (b.dd (askN b)), .int .i64 0]) h) := by
 obtain ⟨hops, hexs⟩ := right_parts hc
 obtain ⟨hs1, hs2, hs3⟩ := hw.hs
 have hK := askN_ok b hc
 refine Spec.weak (Q := fun r h' => ∃ b8 g vx, r = .tup [.ptr b8 0, .int .i64 0] ∧ h b8 = none ∧ Sub h g ∧ g b8 = some ⟨[.ro (wds b.pcs) b.pcs.length, ops (b.dd (askN b)).ops, vx, .int .i64 (b.dd (askN b)).last], 0⟩ ∧ ExO g vx (b.dd (askN b)).exits h') ?_ ?_
 ·refine Spec.walk C69ok rfl ?_
  simp only [push_cast, simprocAttr]
  refine (Check_spec b hw).to ?_
  rw [hc]
  simp only [push_cast, simprocAttr]
  refine (dasked_spec b hw hc).to ?_
  simp only [push_cast, simprocAttr]
  intro c5 hc5
  rw [era_none hc5]
  refine (renumber_spec (askN b) b.ops.length hs1).to ?_
  simp only [push_cast, simprocAttr]
  refine (renumber_spec (namedX b.ops b.last) b.exits.length hs2).to ?_
  have hul := upk_len (askN b) b.ops.length
  have hxl := upk_len (namedX b.ops b.last) b.exits.length
  have hlast : b.exit b.last b.ops.length = true := by
   have := chk_right hc
   simp only [IBk.right, Bool.and_eq_true] at this
   exact this.2
  obtain ⟨⟨l0, l1⟩, _, _⟩ := exit_parts hlast
  have hgl := upk_get (kp := namedX b.ops b.last) (n := b.exits.length) (i := b.last.toNat) (by omega)
  have ql : b.last.toNat < b.exits.length := by omega
  generalize hto : upk (askN b) b.ops.length = to at *
  generalize hxs : upk (namedX b.ops b.last) b.exits.length = xs at *
  simp (disch := omega) only [push_cast, simprocAttr, wrap_i64, toNat_ofInt64, Nat.min_eq_left, Int.toNat_of_nonneg, hxl, l0, l1, ql, hgl]
  intro bp hbp
  have hp32 := (long_parts hc).1
  have hwl : (wds b.pcs).length = b.pcs.length := by simp [wds]
  refine Own.app (Own.row bp 0 0 [] [] 0 hbp rfl (by omega) : Own 1 h (.sl bp 0 0 0) [] 0 _) (m := b.pcs.length) (by omega) (by omega) (by omega) fun vp h1 o1 => ?_
  rw [List.nil_append, Nat.zero_add] at o1
  have hone := o1.one
  simp (disch := omega) only [push_cast, simprocAttr, wrap_i64, toNat_ofInt64, Nat.min_eq_left, Int.toNat_of_nonneg, hone, hxl, l0, l1, ql, hgl]
  intro b8 h8
  have h80 : h b8 = none := o1.sub.none h8
  generalize hlp : (plN (namedX b.ops b.last) b.last.toNat : Int) = lp at *
  generalize hpl : plN (namedX b.ops b.last) = pl at *
  have o1' := o1.upd (b := b8) (x := ⟨[vp, .nils, .nils, .int .i64 lp], 0⟩) (.inl h8)
  have hkd := fun k hk => kind_of (hops k hk)
  have hres := named_kept (kp := askN b) hK
  have hddo : (b.dd (askN b)).ops = (keptO (askN b) b b.ops.length).map (reX pl) := by
   show (keptO (askN b) b b.ops.length).map (reX (plN (namedX (keptO (askN b) b b.ops.length) b.last))) = _
   rw [← hpl, show namedX (keptO (askN b) b b.ops.length) b.last = namedX b.ops b.last from funext hres]
  have hddl : (b.dd (askN b)).last = lp := by
   show ((plN (namedX (keptO (askN b) b b.ops.length) b.last) b.last.toNat : Nat) : Int) = _
   rw [show namedX (keptO (askN b) b b.ops.length) b.last = namedX b.ops b.last from funext hres, hpl, ← hlp]
  have hdde : (b.dd (askN b)).exits = (keptE (namedX b.ops b.last) b.exits).map (trE b to) := by
   show (keptE (namedX (keptO (askN b) b b.ops.length) b.last) b.exits).map (trE b (upk (askN b) b.ops.length)) = _
   rw [show namedX (keptO (askN b) b b.ops.length) b.last = namedX b.ops b.last from funext hres, hto]
  rw [hddo, hddl, hdde]
  refine lpc.rel [0, 5, 6, 7, 8, 44, 45, 46] (fun m ρ h' => ∃ (k : Nat) (vo : AV) (h2 : Heap), m = b.ops.length - k ∧ k ≤ b.ops.length ∧ Own 1 (Ab.upd h b8 ⟨[vp, vo, .nils, .int .i64 lp], 0⟩) vp (wds b.pcs) b.pcs.length h2 ∧ Own 6 h2 vo (((keptO (askN b) b k).map (reX pl)).flatMap IOp.cells) ((keptO (askN b) b k).map (reX pl)).length h' ∧
   ρ = [(0, bkP b), (5, .cp [boolsV (askN b) b.ops.length, boolsV (namedX b.ops b.last) b.exits.length] 0), (6, ints to), (7, ints xs), (8, .ptr b8 0), (44, ops b.ops), (45, .int .i64 (b.ops.length : Int)), (46, .int .i64 (k : Int))]) ⟨_, 0, .nils, _, rfl, by omega, o1', .nil, rfl⟩ ?_
  rintro m _ h3 ⟨k, vo, h2, rfl, hk, p1, p2, rfl⟩
  by_cases hk2 : k < b.ops.length
  ·have hget : (((List.range b.ops.length).map (askN b)).map AV.bool)[k]? = some (.bool (askN b k)) := by simp [hk2]
   have hsu := keptO_succ (askN b) b k
   have hkl : ((keptO (askN b) b k).map (reX pl)).length ≤ k := by rw [List.length_map, keptO_len]; exact plN_le _ _
   have hO : b.ops.getD k IOp.zero = b.op k := rfl
   have k8 := upd_same h b8 ⟨[vp, vo, .nils, .int .i64 lp], 0⟩
   have j8 := p2.get (p1.get k8)
   simp (disch := omega) only [push_cast, simprocAttr, wrap_i64, toNat_ofInt64, Nat.min_eq_left, Int.toNat_of_nonneg, hk2, hO]
   intro c' hc'
   rw [era_none hc']
   simp (disch := omega) only [push_cast, simprocAttr, wrap_i64, toNat_ofInt64, Nat.min_eq_left, Int.toNat_of_nonneg, hk2, hget]
   refine ⟨fun hm => ?_, fun hm => ?_⟩
   ·rw [hm, if_pos rfl, hto] at hsu
    have hg := good_of (hops k hk2)
    have hb : ∀ x, vin b.ops k x → 0 ≤ x ∧ x < to.length := fun x ⟨a, _, c, _⟩ => ⟨a, by rw [hul]; exact c⟩
    have hR : renOK to (b.op k) := ⟨fun h => ⟨hb _ (hg.1 h).1, hb _ (hg.1 h).2⟩, fun h => hb _ (hg.2 h)⟩
    have hxx : ∀ x, takes (b.op k) x → 0 ≤ x ∧ x < xs.length := fun x h => by rw [hxl]; exact (exit_parts (opR_takes (hops k hk2) h)).1
    have h6 : (b.op k).code ≤ 6 := by
     have := hkd k hk2
     change kindN (b.op k) = true at this
     unfold kindN at this
     simp only at this
     (repeat' split at this) <;> first | omega | (cases this)
    have hD := fun H => ddop_spec (G := G) (h := H) (b.op k) to xs hR (fun h => hxx _ (.inl ⟨by omega, rfl⟩)) (fun h => hxx _ (.inr ⟨h, rfl⟩)) pl (fun x h0 h1 => by rw [← hxs, upk_get (by omega), hpl]) h6
    simp (disch := omega) only [push_cast, simprocAttr, wrap_i64, toNat_ofInt64, Nat.min_eq_left, Int.toNat_of_nonneg, j8]
    refine (hD _).to ?_
    simp (disch := omega) only [push_cast, simprocAttr, wrap_i64, toNat_ofInt64, Nat.min_eq_left, Int.toNat_of_nonneg, j8]
    refine Own.app p2 (m := 1) (IOp.len _) (by omega) (by omega) fun v5 h5 o5 => ?_
    have j85 := o5.get (p1.get k8)
    have hone5 := o5.one
    simp (disch := omega) only [push_cast, simprocAttr, wrap_i64, toNat_ofInt64, Nat.min_eq_left, Int.toNat_of_nonneg, j85, hone5]
    have p1' := p1.upd (b := b8) (x := ⟨[vp, v5, .nils, .int .i64 lp], 0⟩) (.inr ⟨_, k8⟩)
    rw [upd_upd] at p1'
    have o5' := o5.upd (b := b8) (x := ⟨[vp, v5, .nils, .int .i64 lp], 0⟩) (.inr ⟨_, p1.get k8⟩)
    refine ⟨_, _, by omega, .refl _, k + 1, v5, _, rfl, by omega, p1', ?_, rfl⟩
    rw [hsu, List.map_append, List.flatMap_append, List.length_append]
    simpa using o5'
   ·rw [hm, if_neg (by simp)] at hsu
    exact ⟨_, _, by omega, .refl _, k + 1, vo, h2, rfl, by omega, p1, by rw [hsu]; exact p2, rfl⟩
  ·obtain rfl : k = b.ops.length := by omega
   simp only [push_cast, simprocAttr, hk2]
   generalize (keptO (askN b) b b.ops.length).map (reX pl) = l at *
   have e1 := upd_self (p1.get (upd_same _ _ _))
   rw [← e1] at p2
   have p1' := p1.upd (b := b8) (x := ⟨[vp, ops l, .nils, .int .i64 lp], 0⟩) (.inr ⟨_, upd_same _ _ _⟩)
   rw [upd_upd] at p1'
   refine ⟨_, _, le_trans (Le.cell p2 (cs' := [vp, ops l, .nils, .int .i64 lp]) rfl (fun i => ?_)) (Le.cell p1' (cs' := [.ro (wds b.pcs) b.pcs.length, ops l, .nils, .int .i64 lp]) rfl (fun i => ?_)), ?_⟩
   ·match i with
    | 0 => exact .inl rfl
    | 1 => exact .inr ⟨rfl, rfl⟩
    | 2 => exact .inl rfl
    | 3 => exact .inl rfl
    | i + 4 => exact .inl rfl
   ·match i with
    | 0 => exact .inr ⟨rfl, rfl⟩
    | 1 => exact .inl rfl
    | 2 => exact .inl rfl
    | 3 => exact .inl rfl
    | i + 4 => exact .inl rfl
   clear p1 p2 p1' e1 hddo hddl hdde
   simp only [push_cast, simprocAttr]
   generalize hnm : namedX b.ops b.last = nm at *
   refine lpc.rel [0, 5, 6, 8, 73, 74, 75] (fun m ρ h' => ∃ (k : Nat) (vx : AV), m = b.exits.length - k ∧ k ≤ b.exits.length ∧ ExO (Ab.upd h b8 ⟨[.ro (wds b.pcs) b.pcs.length, ops l, vx, .int .i64 lp], 0⟩) vx (((List.range k).filter nm).map fun n => trE b to (b.exits.getD n IEx.zero)) h' ∧
    ρ = [(0, bkP b), (5, .cp [boolsV (askN b) b.ops.length, boolsV nm b.exits.length] 0), (6, ints to), (8, .ptr b8 0), (73, exs b.exits), (74, .int .i64 (b.exits.length : Int)), (75, .int .i64 (k : Int))]) ⟨_, 0, .nils, rfl, by omega, ⟨_, [], .nil, .nil⟩, rfl⟩ ?_
   rintro m _ h4 ⟨k, vx, rfl, hk, hx, rfl⟩
   have k8 := upd_same h b8 ⟨[.ro (wds b.pcs) b.pcs.length, ops l, vx, .int .i64 lp], 0⟩
   have j8 := hx.sub _ _ k8
   by_cases hk3 : k < b.exits.length
   ·have hget : (((List.range b.exits.length).map nm).map AV.bool)[k]? = some (.bool (nm k)) := by simp [hk3]
    have hml := getD_map (n := k) hs3
    have hD := fun H => ddexit_spec' (G := G) (h := H) b (b.exits.getD k IEx.zero) to hul (exOK_of (hexs k hk3) hul) hml
    have hsu : ((List.range (k + 1)).filter nm).map (fun n => trE b to (b.exits.getD n IEx.zero)) = if nm k then ((List.range k).filter nm).map (fun n => trE b to (b.exits.getD n IEx.zero)) ++ [trE b to (b.exits.getD k IEx.zero)] else ((List.range k).filter nm).map (fun n => trE b to (b.exits.getD n IEx.zero)) := by
     rw [List.range_succ, List.filter_append, List.map_append]
     cases hm : nm k <;> simp [hm]
    have hel : (((List.range k).filter nm).map fun n => trE b to (b.exits.getD n IEx.zero)).length ≤ k := by rw [List.length_map]; exact Nat.le_trans (List.length_filter_le _ _) (by simp)
    generalize hE : b.exits.getD k IEx.zero = e at *
    generalize ((List.range k).filter nm).map (fun n => trE b to (b.exits.getD n IEx.zero)) = es at *
    simp (disch := omega) only [push_cast, simprocAttr, wrap_i64, toNat_ofInt64, Nat.min_eq_left, Int.toNat_of_nonneg, hk3, hE]
    intro c' hc'
    rw [era_none hc']
    simp (disch := omega) only [push_cast, simprocAttr, wrap_i64, toNat_ofInt64, Nat.min_eq_left, Int.toNat_of_nonneg, hk3, hget]
    refine ⟨fun hm => ?_, fun hm => ?_⟩
    ·rw [hm, if_pos rfl] at hsu
     simp (disch := omega) only [push_cast, simprocAttr, wrap_i64, toNat_ofInt64, Nat.min_eq_left, Int.toNat_of_nonneg, j8]
     refine (hD _).mono ?_
     rintro _ h6 ⟨w, rfl, ow⟩
     obtain ⟨g1, cs, q1, q2⟩ := hx.snoc ow
     have hcx : exC (trE b to e) w = [.int .i64 (trE b to e).done, .int .u32 ((trE b to e).pc.toNat : Int), .int .i64 (trE b to e).to, .int .i64 (trE b to e).why, w] := rfl
     have hw1 := ow.one
     rw [hcx]
     have j86 := ow.get j8
     simp (disch := omega) only [push_cast, simprocAttr, wrap_i64, toNat_ofInt64, Nat.min_eq_left, Int.toNat_of_nonneg, hw1, j86]
     refine Own.app q1 (m := 1) rfl (by omega) (by omega) fun v5 h5 o5 => ?_
     have hx5 := q2 v5 h5 (by rw [hcx]; exact o5)
     have j85 := hx5.sub _ _ k8
     have hone5 := o5.one
     simp (disch := omega) only [push_cast, simprocAttr, wrap_i64, toNat_ofInt64, Nat.min_eq_left, Int.toNat_of_nonneg, j85, hone5]
     have hx6 := hx5.upd (b := b8) (x := ⟨[.ro (wds b.pcs) b.pcs.length, ops l, v5, .int .i64 lp], 0⟩) (.inr ⟨_, k8⟩)
     rw [upd_upd] at hx6
     exact ⟨_, _, by omega, .refl _, k + 1, v5, rfl, by omega, by rw [hsu]; exact hx6, rfl⟩
    ·rw [hm, if_neg (by simp)] at hsu
     exact ⟨_, _, by omega, .refl _, k + 1, vx, rfl, by omega, by rw [hsu]; exact hx, rfl⟩
   ·obtain rfl : k = b.exits.length := by omega
    simp only [push_cast, simprocAttr, hk3]
    refine wkQ.same ?_
    simp only [push_cast, simprocAttr]
    refine ⟨b8, _, vx, rfl, h80, sub_upd h80 (.refl _), k8, ?_⟩
    have he : (keptE nm b.exits).map (trE b to) = ((List.range b.exits.length).filter nm).map fun n => trE b to (b.exits.getD n IEx.zero) := by
     unfold keptE; rw [List.map_map]; rfl
    rw [he]
    exact hx
 ·rintro _ _ ⟨b8, g, vx, rfl, h8, hs, hg, hx⟩
  exact ⟨_, _, ⟨rfl, rfl⟩, le_tup1 (exo_le (b := b.dd (askN b)) hs h8 hg hx)⟩
end Go.Ab
end
section
namespace Go.Ab
theorem smT_sum (es : List IEx) : ∀ n, n ≤ es.length → smT es n = ((List.range n).map fun i => (es.getD i IEx.zero).map.length).sum := by
 intro n
 induction n with
 | zero => intro _; rfl
 | succ n ih =>
  intro hn
  rw [smT, ih (by omega), List.range_succ, List.map_append, List.sum_append]
  simp
theorem sum_filter_le (nm : Nat → Bool) (f g : Nat → Nat) (hfg : ∀ i, f i ≤ g i) : ∀ l : List Nat, ((l.filter nm).map f).sum ≤ (l.map g).sum := by
 intro l
 induction l with
 | nil => simp
 | cons a l ih =>
  have := hfg a
  rw [List.filter_cons]
  split
  ·simp only [List.map_cons, List.sum_cons]; omega
  ·simp only [List.map_cons, List.sum_cons]; omega
theorem smT_all (es : List IEx) : smT es es.length = (es.map fun e => e.map.length).sum := by
 rw [smT_sum es _ (Nat.le_refl _)]
 congr 1
 apply List.ext_getElem
 ·simp
 ·intro i h1 h2
  have hi : i < es.length := by simpa using h2
  simp [hi]
theorem kept_sm (nm : Nat → Bool) (es : List IEx) (tr : IEx → IEx) (ht : ∀ e, (tr e).map.length ≤ e.map.length) : smT ((keptE nm es).map tr) ((keptE nm es).map tr).length ≤ smT es es.length := by
 rw [smT_all, smT_sum es _ (Nat.le_refl _)]
 unfold keptE
 rw [List.map_map, List.map_map]
 exact sum_filter_le nm _ _ (fun i => ht _) _
structure NoL (b' b : IBk) : Prop where
 pcs : b'.pcs = b.pcs
 ops : b'.ops.length ≤ b.ops.length
 exits : b'.exits.length ≤ b.exits.length
 map : ∀ e ∈ b'.exits, ∃ e' ∈ b.exits, e.map.length ≤ e'.map.length
 size : b'.size ≤ b.size
theorem NoL.refl (b : IBk) : NoL b b := ⟨rfl, Nat.le_refl _, Nat.le_refl _, fun e h => ⟨e, h, Nat.le_refl _⟩, Nat.le_refl _⟩
theorem NoL.trans {a b c : IBk} (h1 : NoL a b) (h2 : NoL b c) : NoL a c :=
 ⟨h1.pcs.trans h2.pcs, Nat.le_trans h1.ops h2.ops, Nat.le_trans h1.exits h2.exits, fun e he => by
  obtain ⟨e', q1, q2⟩ := h1.map e he
  obtain ⟨e2, q3, q4⟩ := h2.map e' q1
  exact ⟨e2, q3, Nat.le_trans q2 q4⟩, Nat.le_trans h1.size h2.size⟩
theorem NoL.wf {b' b : IBk} (h : NoL b' b) (hw : b.wf) : b'.wf := by
 obtain ⟨h1, h2, h3, h4, h5, h6, h7, h8⟩ := hw
 have e1 := h.ops
 have e2 := h.exits
 have e3 := h.pcs
 refine ⟨by rw [e3]; exact h1, by omega, by omega, fun e he => ?_, by rw [e3]; exact h5, by omega, by omega, fun e he => ?_⟩
 all_goals
  obtain ⟨e', q1, q2⟩ := h.map e he
  have a := h4 e' q1
  have b := h8 e' q1
  omega
theorem ps_nol (f : Rw) (b : IBk) : NoL (b.ps f) b := by
 have hll := psN_l f b.ops
 have hx : (b.ps f).exits = b.exits.map (renE (psN f b.ops).to) := rfl
 have hren : ∀ e, (renE (psN f b.ops).to e).map.length = e.map.length := fun e => by simp [renE]
 have hsm : smT (b.ps f).exits (b.ps f).exits.length = smT b.exits b.exits.length := by
  rw [smT_all, smT_all, hx, List.map_map]
  congr 1
  refine List.map_congr_left fun e _ => hren e
 refine ⟨rfl, hll, by rw [hx, List.length_map]; exact Nat.le_refl _, fun e he => ?_, ?_⟩
 ·rw [hx, List.mem_map] at he
  obtain ⟨e', q1, rfl⟩ := he
  exact ⟨e', q1, by rw [hren]; exact Nat.le_refl _⟩
 ·unfold IBk.size
  have : (b.ps f).ops.length ≤ b.ops.length := hll
  have e2 : (b.ps f).exits.length = b.exits.length := by rw [hx, List.length_map]
  omega
theorem pr_nol {b : IBk} {l : List IOp} {last : Int} {tr : IEx → IEx} (hl : l.length ≤ b.ops.length) (ht : ∀ e, (tr e).map.length ≤ e.map.length) : NoL (prB b.pcs l b.exits last tr) b := by
 have hx : (prB b.pcs l b.exits last tr).exits = (keptE (namedX l last) b.exits).map tr := rfl
 have ho : (prB b.pcs l b.exits last tr).ops.length = l.length := by simp [prB]
 have hk : ((keptE (namedX l last) b.exits).map tr).length ≤ b.exits.length := by rw [List.length_map, kept_len]; exact plN_le _ _
 have hsm := kept_sm (namedX l last) b.exits tr ht
 refine ⟨rfl, by omega, by rw [hx]; exact hk, fun e he => ?_, ?_⟩
 ·rw [hx, List.mem_map] at he
  obtain ⟨e', q1, rfl⟩ := he
  unfold keptE at q1
  rw [List.mem_map] at q1
  obtain ⟨n, q2, rfl⟩ := q1
  rw [List.mem_filter, List.mem_range] at q2
  refine ⟨b.exits.getD n IEx.zero, ?_, ht _⟩
  rw [List.getD_eq_getElem?_getD, List.getElem?_eq_getElem q2.1]
  simp
 ·unfold IBk.size
  rw [hx] at *
  omega
theorem gd_nol {b : IBk} (hc : b.check = 0) : NoL b.gd b := by
 obtain ⟨m, hm, e1, e2⟩ := gScan_at b.ops b.last b.ops.length 0 (by omega)
 rw [List.drop_zero, List.take_zero] at e1
 have e0 : psN gF [] = ⟨[], []⟩ := rfl
 rw [e0] at e1
 unfold IBk.gd
 refine pr_nol ?_ fun e => by simp [renE]
 rw [e1]
 have := psN_l gF (b.ops.take m)
 rw [List.length_take] at this
 omega
theorem dd_nol (b : IBk) (kp : Nat → Bool) : NoL (b.dd kp) b := by
 unfold IBk.dd
 refine pr_nol (by rw [keptO_len]; exact plN_le _ _) fun e => ?_
 unfold trE renE
 simp only [List.length_map]
 exact List.length_filter_le _ _
noncomputable def passN (bit : Int) (b : IBk) : IBk := if bit = 1 then b.ps foldF else if bit = 2 then b.ps numF else if bit = 4 then b.gd else b.dd (askN b)
theorem passN_ok (bit : Int) {b : IBk} (hc : b.check = 0) : (passN bit b).check = 0 ∧ NoL (passN bit b) b ∧ ∀ regs : List (BitVec 32), regs.length = 32 → ∀ M, (passN bit b).res regs M = b.res regs M := by
 unfold passN
 split
 ·exact ⟨ps_check fold_ok hc, ps_nol _ _, fun regs _ M => fold_res hc regs M⟩
 split
 ·exact ⟨ps_check num_ok hc, ps_nol _ _, fun regs _ M => num_res hc regs M⟩
 split
 ·exact ⟨gd_check hc, gd_nol hc, fun regs _ M => gd_res hc regs M⟩
 ·exact ⟨dd_check hc (askN_ok b hc), dd_nol _ _, fun regs _ M => dd_res hc (askN_ok b hc) regs M⟩
def kAnd (mask bit : Int) : Int := IntKind.i64.wrap ((BitVec.ofInt 64 mask &&& BitVec.ofInt 64 bit).toNat : Int)
def bitM (mask bit : Int) : Bool := decide (kAnd mask bit ≠ 0)
noncomputable def roundK (mask : Int) (b : IBk) : List Int → IBk
 | [] => b
 | bit :: r => roundK mask (if bitM mask bit then passN bit b else b) r
noncomputable def roundN (mask : Int) (b : IBk) : IBk := roundK mask b [1, 2, 4, 8]
noncomputable def runP (mask : Int) : Nat → IBk → IBk
 | 0, b => b
 | n + 1, b => if roundN mask b = b then roundN mask b else runP mask n (roundN mask b)
structure Kps (b' b : IBk) : Prop where
 check : b'.check = 0
 nol : NoL b' b
 res : ∀ regs : List (BitVec 32), regs.length = 32 → ∀ M, b'.res regs M = b.res regs M
theorem Kps.refl {b : IBk} (hc : b.check = 0) : Kps b b := ⟨hc, .refl b, fun _ _ _ => rfl⟩
theorem Kps.trans {a b c : IBk} (h1 : Kps a b) (h2 : Kps b c) : Kps a c := ⟨h1.check, h1.nol.trans h2.nol, fun regs hl M => (h1.res regs hl M).trans (h2.res regs hl M)⟩
theorem pass_kps (bit : Int) {b : IBk} (hc : b.check = 0) : Kps (passN bit b) b := by
 obtain ⟨h1, h2, h3⟩ := passN_ok bit hc
 exact ⟨h1, h2, h3⟩
theorem roundK_kps (mask : Int) : ∀ (l : List Int) {b : IBk}, b.check = 0 → Kps (roundK mask b l) b := by
 intro l
 induction l with
 | nil => intro b hc; exact .refl hc
 | cons bit r ih =>
  intro b hc
  rw [roundK]
  split
  ·have h := pass_kps bit hc
   exact (ih h.check).trans h
  ·exact ih hc
theorem round_kps (mask : Int) {b : IBk} (hc : b.check = 0) : Kps (roundN mask b) b := roundK_kps mask _ hc
theorem run_kps (mask : Int) : ∀ (n : Nat) {b : IBk}, b.check = 0 → Kps (runP mask n b) b := by
 intro n
 induction n with
 | zero => intro b hc; exact .refl hc
 | succ n ih =>
  intro b hc
  have h := round_kps mask hc
  rw [runP]
  split
  ·exact h
  ·exact (ih h.check).trans h
end Go.Ab
end
section
namespace Go.Ab
open Go.Proofs
variable {G : Glo} {h : Heap}
theorem pone_spec (bit : Int) (b : IBk) (hw : b.wf) (hc : b.check = 0) : Spec Tryz.prog G 33 [.int .i64 bit, bkP b] h (Is (.tup [bkP (passN bit b), .int .i64 0]) h) := by
 unfold passN
 refine Spec.is C33ok rfl ?_
 by_cases c1 : bit = 1
 ·subst c1
  simp only [push_cast, simprocAttr]
  refine (foldDo_spec b hw hc).to ?_
  simp only [push_cast, simprocAttr]
  try rfl
 by_cases c2 : bit = 2
 ·subst c2
  simp only [push_cast, simprocAttr]
  refine (numDo_spec b hw hc).to ?_
  simp only [push_cast, simprocAttr]
  try rfl
 by_cases c4 : bit = 4
 ·subst c4
  simp only [push_cast, simprocAttr]
  refine (guardDo_spec b hw hc).to ?_
  simp only [push_cast, simprocAttr]
  try rfl
 ·rw [if_neg c1, if_neg c2, if_neg c4]
  simp only [push_cast, simprocAttr, c1, c2, c4]
  refine (deadDo_spec b hw hc).to ?_
  simp only [push_cast, simprocAttr]
  try rfl
theorem bits_each {mask : Int} {H : Heap} {l : Nat} (hy : YOk Tryz.prog G) (J : Nat → Heap → Prop)
  (hJ : ∀ k h1 (Q : AV → Heap → Prop), k < 4 → bitM mask ([1, 2, 4, 8].getD k 0) = true → J k h1 → (∀ h2, J (k + 1) h2 → Q (.bool true) h2) → G.y l [.int .i64 ([1, 2, 4, 8].getD k 0)] h1 Q)
  (hN : ∀ k h1, k < 4 → bitM mask ([1, 2, 4, 8].getD k 0) = false → J k h1 → J (k + 1) h1) (h0 : J 0 H) :
  Spec Tryz.prog G 65 [.yl l, .cp [.int .i64 mask] 0] H (fun r h2 => r = .tup [] ∧ J 4 h2) := by
 refine Spec.walk C65ok rfl ?_
 simp only [push_cast, simprocAttr]
 refine lpc.rel [0, 1, 3] (fun m ρ H' => ∃ k : Nat, m = 4 - k ∧ k ≤ 4 ∧ J k H' ∧ ρ = [(0, .yl l), (1, .cp [.int .i64 mask] 0), (3, .int .i64 (2 ^ k : Nat))]) ⟨_, 0, rfl, by omega, h0, rfl⟩ ?_
 rintro m _ H' ⟨k, rfl, hk, hj, rfl⟩
 have hJk := fun Q => hJ k H' Q
 have hNk := hN k H'
 have ha : ∀ x, abin BinOp.and (.int .i64 mask) (.int .i64 x) = some (.int .i64 (kAnd mask x)) := fun _ => rfl
 match k, hk with
 | 0, _ =>
  have hb : bitM mask ([1, 2, 4, 8].getD 0 0) = decide (kAnd mask 1 ≠ 0) := rfl
  have hbd : ([1, 2, 4, 8] : List Int).getD 0 0 = 1 := rfl
  rw [hb] at hJk hNk
  rw [hbd] at hJk
  generalize hv : kAnd mask 1 = v at *
  by_cases c : v = 0
  ·simp only [push_cast, simprocAttr, ha, hv, c]
   exact ⟨_, _, by omega, .refl _, 1, rfl, by omega, hNk (by omega) (by simp [c]) hj, rfl⟩
  ·simp only [push_cast, simprocAttr, ha, hv, c]
   refine ⟨hy, hJk _ (by omega) (by simp [c]) hj fun h2 hj2 => ?_⟩
   simp only [push_cast, simprocAttr]
   exact ⟨_, _, by omega, .refl _, 1, rfl, by omega, hj2, rfl⟩
 | 1, _ =>
  have hb : bitM mask ([1, 2, 4, 8].getD 1 0) = decide (kAnd mask 2 ≠ 0) := rfl
  have hbd : ([1, 2, 4, 8] : List Int).getD 1 0 = 2 := rfl
  rw [hb] at hJk hNk
  rw [hbd] at hJk
  generalize hv : kAnd mask 2 = v at *
  by_cases c : v = 0
  ·simp only [push_cast, simprocAttr, ha, hv, c]
   exact ⟨_, _, by omega, .refl _, 2, rfl, by omega, hNk (by omega) (by simp [c]) hj, rfl⟩
  ·simp only [push_cast, simprocAttr, ha, hv, c]
   refine ⟨hy, hJk _ (by omega) (by simp [c]) hj fun h2 hj2 => ?_⟩
   simp only [push_cast, simprocAttr]
   exact ⟨_, _, by omega, .refl _, 2, rfl, by omega, hj2, rfl⟩
 | 2, _ =>
  have hb : bitM mask ([1, 2, 4, 8].getD 2 0) = decide (kAnd mask 4 ≠ 0) := rfl
  have hbd : ([1, 2, 4, 8] : List Int).getD 2 0 = 4 := rfl
  rw [hb] at hJk hNk
  rw [hbd] at hJk
  generalize hv : kAnd mask 4 = v at *
  by_cases c : v = 0
  ·simp only [push_cast, simprocAttr, ha, hv, c]
   exact ⟨_, _, by omega, .refl _, 3, rfl, by omega, hNk (by omega) (by simp [c]) hj, rfl⟩
  ·simp only [push_cast, simprocAttr, ha, hv, c]
   refine ⟨hy, hJk _ (by omega) (by simp [c]) hj fun h2 hj2 => ?_⟩
   simp only [push_cast, simprocAttr]
   exact ⟨_, _, by omega, .refl _, 3, rfl, by omega, hj2, rfl⟩
 | 3, _ =>
  have hb : bitM mask ([1, 2, 4, 8].getD 3 0) = decide (kAnd mask 8 ≠ 0) := rfl
  have hbd : ([1, 2, 4, 8] : List Int).getD 3 0 = 8 := rfl
  rw [hb] at hJk hNk
  rw [hbd] at hJk
  generalize hv : kAnd mask 8 = v at *
  by_cases c : v = 0
  ·simp only [push_cast, simprocAttr, ha, hv, c]
   exact ⟨_, _, by omega, .refl _, 4, rfl, by omega, hNk (by omega) (by simp [c]) hj, rfl⟩
  ·simp only [push_cast, simprocAttr, ha, hv, c]
   refine ⟨hy, hJk _ (by omega) (by simp [c]) hj fun h2 hj2 => ?_⟩
   simp only [push_cast, simprocAttr]
   exact ⟨_, _, by omega, .refl _, 4, rfl, by omega, hj2, rfl⟩
 | 4, _ =>
  simp only [push_cast, simprocAttr]
  exact hj
end Go.Ab
end
section
namespace Go.Ab
open Go.Proofs
variable {G : Glo} {h : Heap}
theorem era_upd_none {h : Heap} {b : Nat} {x : Blk} (hb : h b = none) : era (Ab.upd h b x) b = h := by
 funext d
 simp only [era, Ab.upd]
 by_cases e : d = b
 ·rw [if_pos e, e, hb]
 ·rw [if_neg e, if_neg e]
theorem CloneIs_spec (b : IBk) (hw : b.wf) : Spec Tryz.prog G 31 [bkP b] h (Is (bkP b) h) := by
 refine Spec.weak (Clone_spec b hw) ?_
 rintro _ h1 ⟨c, g, vx, rfl, hn, hs, hg, hx⟩
 exact ⟨_, _, ⟨rfl, rfl⟩, exo_le hs hn hg hx⟩
theorem bitsFn_spec (mask : Int) : Spec Tryz.prog G 32 [.int .i64 mask] h (Is (.fn 65 [] [.cp [.int .i64 mask] 0]) h) := by
 refine Spec.is C32ok rfl ?_
 simp only [push_cast, simprocAttr]
noncomputable def roundJ (mask : Int) (b : IBk) (k : Nat) : IBk := roundK mask b ([1, 2, 4, 8].take k)
theorem roundJ_succ (mask : Int) (b : IBk) (k : Nat) (hk : k < 4) : roundJ mask b (k + 1) = if bitM mask ([1, 2, 4, 8].getD k 0) then passN ([1, 2, 4, 8].getD k 0) (roundJ mask b k) else roundJ mask b k := by
 match k, hk with
 | 0, _ => rfl
 | 1, _ => rfl
 | 2, _ => rfl
 | 3, _ => rfl
theorem Round_spec (b : IBk) (mask : Int) (hw : b.wf) (hc : b.check = 0) : Spec Tryz.prog G 10 [bkP b, .int .i64 mask] h (Is (.tup [bkP (roundN mask b), .int .i64 0]) h) := by
 refine Spec.weak (Q := fun r h' => Sub h h' ∧ r = .tup [bkP (roundN mask b), .int .i64 0]) ?_ ?_
 ·refine Spec.walkR C10ok rfl ?_
  simp only [push_cast, simprocAttr]
  intro b4 hb4 b5 hb5
  refine (Check_spec b hw).to ?_
  rw [hc]
  simp only [push_cast, simprocAttr]
  refine (CloneIs_spec b hw).to ?_
  simp only [push_cast, simprocAttr]
  intro b7 hb7
  refine (bitsFn_spec mask).to ?_
  simp only [push_cast, simprocAttr]
  refine rfV_fn ⟨_, C65ok.hf, rfl, rfl⟩ ?_
  intro l r e hl hr1 hr2 hy
  obtain ⟨n1, n2, n3, hl0⟩ := fresh3 hl
  obtain ⟨m1, m2, hb70⟩ := fresh2 hb7
  obtain ⟨p1, hb50⟩ := fresh1 hb5
  refine (bits_each (mask := mask) hy (fun k H => H = Ab.upd (Ab.upd (Ab.upd (Ab.upd h b4 ⟨[.nilp], 0⟩) b5 ⟨[.int .i64 0], 0⟩) b7 ⟨[bkP (roundJ mask b k)], 0⟩) l (lpB r)) ?_ ?_ ?_).mono ?_
  ·rintro k _ Q hk hm rfl hQ
   have hkp := roundK_kps mask ([1, 2, 4, 8].take k) hc
   have hj := roundJ_succ mask b k hk
   rw [hm, if_pos rfl] at hj
   change Kps (roundJ mask b k) b at hkp
   have gl := upd_same (Ab.upd (Ab.upd (Ab.upd h b4 ⟨[.nilp], 0⟩) b5 ⟨[.int .i64 0], 0⟩) b7 ⟨[bkP (roundJ mask b k)], 0⟩) l (lpB r)
   refine ⟨rfl, rfl, gl, ?_⟩
   simp only [List.zip_cons_cons, List.zip_nil_right, List.reverse_cons, List.reverse_nil, List.nil_append, List.cons_append]
   have g7 : Ab.upd (Ab.upd (Ab.upd (Ab.upd h b4 ⟨[.nilp], 0⟩) b5 ⟨[.int .i64 0], 0⟩) b7 ⟨[bkP (roundJ mask b k)], 0⟩) l (lpB (lpBusy r)) b7 = some ⟨[bkP (roundJ mask b k)], 0⟩ := by rw [upd_ne (Ne.symm n1)]; exact upd_same _ _ _
   generalize hB : roundJ mask b k = b1 at *
   simp only [push_cast, simprocAttr, g7, gl]
   refine (pone_spec (G := G) _ b1 (hkp.nol.wf hw) hkp.check).to ?_
   have g7' : ∀ X, Ab.upd (Ab.upd (Ab.upd (Ab.upd (Ab.upd h b4 ⟨[.nilp], 0⟩) b5 ⟨[.int .i64 0], 0⟩) b7 ⟨[bkP b1], 0⟩) l (lpB (lpBusy r))) b7 X l = some (lpB (lpBusy r)) := fun X => by rw [upd_ne n1]; exact upd_same _ _ _
   simp only [push_cast, simprocAttr, g7, g7']
   refine hQ _ ?_
   rw [hj, upd_comm (b := l) (c := b7) n1, upd_upd, upd_upd]
  ·rintro k _ hk hm rfl
   rw [roundJ_succ mask b k hk, hm, if_neg (by simp)]
  ·rfl
  ·rintro r2 _ ⟨rfl, rfl⟩
   refine .inl ⟨upd_same _ _ _, ?_⟩
   rw [era_upd_none (show (Ab.upd (Ab.upd (Ab.upd h b4 ⟨[.nilp], 0⟩) b5 ⟨[.int .i64 0], 0⟩) b7 ⟨[bkP (roundJ mask b 4)], 0⟩) l = none by rw [upd_ne n1, upd_ne n2, upd_ne n3]; exact hl0)]
   have k4 : ∀ X, Ab.upd (Ab.upd (Ab.upd h b4 ⟨[.nilp], 0⟩) b5 ⟨[.int .i64 0], 0⟩) b7 X b4 = some ⟨[.nilp], 0⟩ := fun X => by rw [upd_ne (Ne.symm m2), upd_ne (Ne.symm p1)]; exact upd_same _ _ _
   simp only [push_cast, simprocAttr, upd_at, k4, p1, m1, m2, Ne.symm p1, Ne.symm m1, Ne.symm m2]
   exact ⟨sub_upd hb50 (sub_upd hb4 (sub_upd hb70 (sub_upd hb50 (sub_upd hb4 (.refl _))))), rfl⟩
 ·rintro _ h' ⟨hs, rfl⟩
  exact ⟨_, _, ⟨rfl, rfl⟩, le_sub hs (Le.refl _ _)⟩
end Go.Ab
end
section
namespace Go.Ab
open Go.Proofs
variable {G : Glo} {h : Heap}
theorem eqP_spec (a b : List (BitVec 32)) (hl : a.length ≤ 1000000000000) : Spec Tryz.prog G 72 [.ro (wds a) a.length, .ro (wds b) b.length] h (Is (.bool (decide (a = b))) h) := by
 refine Spec.is C72ok rfl ?_
 by_cases h1 : a.length = b.length
 ·have h1' : (a.length : Int) = b.length := by omega
  simp (disch := omega) only [push_cast, simprocAttr, wrap_i64, toNat_ofInt64, Nat.min_eq_left, Int.toNat_of_nonneg, h1]
  refine lpc.rel [0, 1, 12, 13] (fun m ρ h' => ∃ k : Nat, m = a.length - k ∧ k ≤ a.length ∧ h = h' ∧ (∀ i, i < k → a.getD i 0#32 = b.getD i 0#32) ∧
   ρ = [(0, .ro (wds a) b.length), (1, .ro (wds b) b.length), (12, .int .i64 (b.length : Int)), (13, .int .i64 (k : Int))]) ⟨_, 0, rfl, by omega, rfl, by intro i hi; omega, rfl⟩ ?_
  rintro m _ _ ⟨k, rfl, hk, rfl, hall, rfl⟩
  by_cases hk2 : k < a.length
  ·have hk3 : k < b.length := by omega
   simp (disch := omega) only [push_cast, simprocAttr, wrap_i64, toNat_ofInt64, Nat.min_eq_left, Int.toNat_of_nonneg, hk2, hk3]
   refine ⟨fun hv => ?_, fun hv => ?_⟩
   ·rw [decide_eq_false (fun e => by rw [e] at hv; simp at hv)]
   ·refine ⟨_, _, by omega, .refl _, k + 1, rfl, by omega, rfl, fun i hi => ?_, rfl⟩
    by_cases hik : i = k
    ·subst hik; first | exact hv | simpa using hv
    ·exact hall i (by omega)
  ·obtain rfl : k = a.length := by omega
   have hk3 : ¬ a.length < b.length := by omega
   simp only [push_cast, simprocAttr, hk2, hk3]
   rw [decide_eq_true (getD_ext 0#32 h1 hall)]
 ·have h2 : ¬ (a.length : Int) = b.length := by omega
  simp only [push_cast, simprocAttr, h1, h2]
  rw [decide_eq_false (fun e => h1 (by rw [e]))]
theorem eqO_spec (a b : List IOp) (hl : a.length ≤ 1000000000000) : Spec Tryz.prog G 73 [ops a, ops b] h (Is (.bool (decide (a = b))) h) := by
 refine Spec.is C73ok rfl ?_
 by_cases h1 : a.length = b.length
 ·have h1' : (a.length : Int) = b.length := by omega
  simp (disch := omega) only [push_cast, simprocAttr, wrap_i64, toNat_ofInt64, Nat.min_eq_left, Int.toNat_of_nonneg, h1]
  refine lpc.rel [0, 1, 12, 13] (fun m ρ h' => ∃ k : Nat, m = a.length - k ∧ k ≤ a.length ∧ h = h' ∧ (∀ i, i < k → a.getD i IOp.zero = b.getD i IOp.zero) ∧
   ρ = [(0, ops a), (1, ops b), (12, .int .i64 (b.length : Int)), (13, .int .i64 (k : Int))]) ⟨_, 0, rfl, by omega, rfl, by intro i hi; omega, rfl⟩ ?_
  rintro m _ _ ⟨k, rfl, hk, rfl, hall, rfl⟩
  by_cases hk2 : k < a.length
  ·have hk3 : k < b.length := by omega
   simp (disch := omega) only [push_cast, simprocAttr, wrap_i64, toNat_ofInt64, Nat.min_eq_left, Int.toNat_of_nonneg, hk2, hk3, op_eqd]
   refine ⟨fun hv => ?_, fun hv => ?_⟩
   ·rw [decide_eq_false (fun e => by rw [e] at hv; simp at hv)]
   ·refine ⟨_, _, by omega, .refl _, k + 1, rfl, by omega, rfl, fun i hi => ?_, rfl⟩
    by_cases hik : i = k
    ·subst hik; first | exact hv | simpa using hv
    ·exact hall i (by omega)
  ·obtain rfl : k = a.length := by omega
   have hk3 : ¬ a.length < b.length := by omega
   simp only [push_cast, simprocAttr, hk2, hk3]
   rw [decide_eq_true (getD_ext IOp.zero h1 hall)]
 ·have h2 : ¬ (a.length : Int) = b.length := by omega
  simp only [push_cast, simprocAttr, h1, h2]
  rw [decide_eq_false (fun e => h1 (by rw [e]))]
theorem eqV_spec (a b : List IVl) (hl : a.length ≤ 1000000000000) : Spec Tryz.prog G 71 [vls a, vls b] h (Is (.bool (decide (a = b))) h) := by
 refine Spec.is C71ok rfl ?_
 by_cases h1 : a.length = b.length
 ·have h1' : (a.length : Int) = b.length := by omega
  simp (disch := omega) only [push_cast, simprocAttr, wrap_i64, toNat_ofInt64, Nat.min_eq_left, Int.toNat_of_nonneg, h1]
  refine lpc.rel [0, 1, 12, 13] (fun m ρ h' => ∃ k : Nat, m = a.length - k ∧ k ≤ a.length ∧ h = h' ∧ (∀ i, i < k → a.getD i IVl.zero = b.getD i IVl.zero) ∧
   ρ = [(0, vls a), (1, vls b), (12, .int .i64 (b.length : Int)), (13, .int .i64 (k : Int))]) ⟨_, 0, rfl, by omega, rfl, by intro i hi; omega, rfl⟩ ?_
  rintro m _ _ ⟨k, rfl, hk, rfl, hall, rfl⟩
  by_cases hk2 : k < a.length
  ·have hk3 : k < b.length := by omega
   simp (disch := omega) only [push_cast, simprocAttr, wrap_i64, toNat_ofInt64, Nat.min_eq_left, Int.toNat_of_nonneg, hk2, hk3, vl_eqd]
   refine ⟨fun hv => ?_, fun hv => ?_⟩
   ·rw [decide_eq_false (fun e => by rw [e] at hv; simp at hv)]
   ·refine ⟨_, _, by omega, .refl _, k + 1, rfl, by omega, rfl, fun i hi => ?_, rfl⟩
    by_cases hik : i = k
    ·subst hik; first | exact hv | simpa using hv
    ·exact hall i (by omega)
  ·obtain rfl : k = a.length := by omega
   have hk3 : ¬ a.length < b.length := by omega
   simp only [push_cast, simprocAttr, hk2, hk3]
   rw [decide_eq_true (getD_ext IVl.zero h1 hall)]
 ·have h2 : ¬ (a.length : Int) = b.length := by omega
  simp only [push_cast, simprocAttr, h1, h2]
  rw [decide_eq_false (fun e => h1 (by rw [e]))]
end Go.Ab
end
section
namespace Go.Ab
open Go.Proofs
variable {G : Glo} {h : Heap}
theorem ex_dec (x y : IEx) : decide (x = y) = (decide (x.done = y.done) && (decide (x.pc = y.pc) && (decide (x.to = y.to) && (decide (x.why = y.why) && decide (x.map = y.map))))) := by
 obtain ⟨a, b, c, d, e⟩ := x
 obtain ⟨a', b', c', d', e'⟩ := y
 rw [Bool.eq_iff_iff]; simp
theorem same1_spec (x y : IEx) (hl : x.map.length ≤ 1000000000000) : Spec Tryz.prog G 70 [.agg x.cells, .agg y.cells] h (Is (.bool (decide (x = y))) h) := by
 have kV := eqV_spec (G := G) (h := h) x.map y.map hl
 rw [ex_dec]
 have e2 : ((x.pc.toNat : Int) == (y.pc.toNat : Int)) = decide (x.pc = y.pc) := by
  rw [Bool.eq_iff_iff, beq_iff_eq, decide_eq_true_eq]
  exact ⟨fun e => BitVec.eq_of_toNat_eq (by omega), fun e => by rw [e]⟩
 have e1 : (x.done == y.done) = decide (x.done = y.done) := rfl
 have e3 : (x.to == y.to) = decide (x.to = y.to) := rfl
 have e4 : (x.why == y.why) = decide (x.why = y.why) := rfl
 generalize decide (x.done = y.done) = B1 at *
 generalize decide (x.pc = y.pc) = B2 at *
 generalize decide (x.to = y.to) = B3 at *
 generalize decide (x.why = y.why) = B4 at *
 refine Spec.is C70ok rfl ?_
 cases B1 with
 | false => simp only [push_cast, simprocAttr, e1]; try rfl
 | true => cases B2 with
  | false => simp only [push_cast, simprocAttr, e1, e2]; try rfl
  | true => cases B3 with
   | false => simp only [push_cast, simprocAttr, e1, e2, e3]; try rfl
   | true => cases B4 with
    | false => simp only [push_cast, simprocAttr, e1, e2, e3, e4]; try rfl
    | true =>
     simp only [push_cast, simprocAttr, e1, e2, e3, e4]
     refine kV.to ?_
     simp only [push_cast, simprocAttr]
     try rfl
theorem eqX_spec (a b : List IEx) (hl : a.length ≤ 1000000000000) (hm : ∀ e ∈ a, e.map.length ≤ 1000000000000) : Spec Tryz.prog G 74 [exs a, exs b, .fn 70 [] []] h (Is (.bool (decide (a = b))) h) := by
 refine Spec.is C74ok rfl ?_
 by_cases h1 : a.length = b.length
 ·simp (disch := omega) only [push_cast, simprocAttr, wrap_i64, toNat_ofInt64, Nat.min_eq_left, Int.toNat_of_nonneg, h1]
  refine lpc.rel [1, 2, 15, 16, 17] (fun m ρ h' => ∃ k : Nat, m = a.length - k ∧ k ≤ a.length ∧ h = h' ∧ (∀ i, i < k → a.getD i IEx.zero = b.getD i IEx.zero) ∧
   ρ = [(1, exs b), (2, .fn 70 [] []), (15, exs a), (16, .int .i64 (b.length : Int)), (17, .int .i64 (k : Int))]) ⟨_, 0, rfl, by omega, rfl, by intro i hi; omega, rfl⟩ ?_
  rintro m _ _ ⟨k, rfl, hk, rfl, hall, rfl⟩
  by_cases hk2 : k < a.length
  ·have hk3 : k < b.length := by omega
   have hml : (a.getD k IEx.zero).map.length ≤ 1000000000000 := by rw [List.getD_eq_getElem?_getD, List.getElem?_eq_getElem hk2]; exact hm _ (by simp)
   generalize hx : a.getD k IEx.zero = x at *
   generalize hy : b.getD k IEx.zero = y at *
   simp (disch := omega) only [push_cast, simprocAttr, wrap_i64, toNat_ofInt64, Nat.min_eq_left, Int.toNat_of_nonneg, hk2, hk3, hx, hy]
   intro c8 hc8
   rw [era_none hc8]
   intro c9 hc9
   rw [era_none hc9]
   refine ⟨⟨_, C70ok.hf, rfl, rfl⟩, (same1_spec x y hml).to ?_⟩
   by_cases hv : x = y
   ·rw [decide_eq_true hv]
    simp (disch := omega) only [push_cast, simprocAttr, wrap_i64, toNat_ofInt64, Nat.min_eq_left, Int.toNat_of_nonneg]
    refine ⟨_, _, by omega, .refl _, k + 1, rfl, by omega, rfl, fun i hi => ?_, rfl⟩
    by_cases hik : i = k
    ·subst hik; rw [hx, hy]; exact hv
    ·exact hall i (by omega)
   ·rw [decide_eq_false hv]
    simp only [push_cast, simprocAttr]
    rw [decide_eq_false (fun e => hv (by rw [← hx, ← hy, e]))]
  ·obtain rfl : k = a.length := by omega
   have hk3 : ¬ a.length < b.length := by omega
   simp only [push_cast, simprocAttr, hk2, hk3]
   rw [decide_eq_true (getD_ext IEx.zero h1 hall)]
 ·have h2 : ¬ (a.length : Int) = b.length := by omega
  simp only [push_cast, simprocAttr, h1, h2]
  rw [decide_eq_false (fun e => h1 (by rw [e]))]
theorem bk_dec (a b : IBk) : decide (a = b) = (decide (a.last = b.last) && (decide (a.pcs = b.pcs) && (decide (a.ops = b.ops) && decide (a.exits = b.exits)))) := by
 obtain ⟨a1, a2, a3, a4⟩ := a
 obtain ⟨b1, b2, b3, b4⟩ := b
 rw [Bool.eq_iff_iff]; simp; constructor <;> (rintro ⟨x, y, z, w⟩; simp_all)
theorem same_spec33 (a b : IBk) (hw : a.wf) : Spec Tryz.prog G 34 [bkP a, bkP b] h (Is (.bool (decide (a = b))) h) := by
 obtain ⟨hs1, hs2, hs3⟩ := hw.hs
 have kP := eqP_spec (G := G) (h := h) a.pcs b.pcs hw.hq
 have kO := eqO_spec (G := G) (h := h) a.ops b.ops hs1
 have kX := eqX_spec (G := G) (h := h) a.exits b.exits hs2 hs3
 rw [bk_dec]
 have e1 : (a.last == b.last) = decide (a.last = b.last) := rfl
 generalize decide (a.last = b.last) = B1 at *
 refine Spec.is C34ok rfl ?_
 cases B1 with
 | false => simp only [push_cast, simprocAttr, e1]; try rfl
 | true =>
  simp only [push_cast, simprocAttr, e1]
  refine kP.to ?_
  cases decide (a.pcs = b.pcs) with
  | false => simp only [push_cast, simprocAttr]; try rfl
  | true =>
   simp only [push_cast, simprocAttr]
   refine kO.to ?_
   cases decide (a.ops = b.ops) with
   | false => simp only [push_cast, simprocAttr]; try rfl
   | true =>
    simp only [push_cast, simprocAttr]
    refine kX.to ?_
    simp only [push_cast, simprocAttr]
    try rfl
end Go.Ab
end
section
namespace Go.Ab
open Go.Proofs
variable {G : Glo} {h : Heap}
theorem Run_spec (b : IBk) (mask : Int) (hw : b.wf) (hc : b.check = 0) : Spec Tryz.prog G 11 [bkP b, .int .i64 mask] h (Is (.tup [bkP (runP mask 8 b), .int .i64 0]) h) := by
 refine Spec.is C11ok rfl ?_
 simp only [push_cast, simprocAttr]
 refine lpc.rel [1, 6, 10] (fun m ρ h' => ∃ (k : Nat) (b1 : IBk), m = 8 - k ∧ k ≤ 8 ∧ h = h' ∧ Kps b1 b ∧ runP mask 8 b = runP mask (8 - k) b1 ∧
  ρ = [(1, .int .i64 mask), (6, bkP b1), (10, .int .i64 (k : Int))]) ⟨_, 0, b, rfl, by omega, rfl, .refl hc, rfl, rfl⟩ ?_
 rintro m _ _ ⟨k, b1, rfl, hk, rfl, hp, hr, rfl⟩
 by_cases hk2 : k < 8
 ·have hw1 := hp.nol.wf hw
  have hR := Round_spec (G := G) (h := h) b1 mask hw1 hp.check
  have hS := same_spec33 (G := G) (h := h) (roundN mask b1) b1 ((round_kps mask hp.check).nol.wf hw1)
  have hkp := (round_kps mask hp.check).trans hp
  have hstep : runP mask (8 - k) b1 = if roundN mask b1 = b1 then roundN mask b1 else runP mask (8 - (k + 1)) (roundN mask b1) := by rw [show 8 - k = (8 - (k + 1)) + 1 by omega, runP]
  rw [hstep] at hr
  clear hstep
  generalize runP mask 8 b = R at *
  generalize roundN mask b1 = b2 at *
  have hk3 : (k : Int) < 8 := by omega
  simp (disch := omega) only [push_cast, simprocAttr, wrap_i64, toNat_ofInt64, Nat.min_eq_left, Int.toNat_of_nonneg, hk2, hk3]
  refine hR.to ?_
  simp only [push_cast, simprocAttr]
  refine hS.to ?_
  by_cases he : b2 = b1
  ·rw [if_pos he] at hr
   rw [decide_eq_true he]
   simp only [push_cast, simprocAttr]
   rw [hr]
  ·rw [if_neg he] at hr
   rw [decide_eq_false he]
   simp (disch := omega) only [push_cast, simprocAttr, wrap_i64, toNat_ofInt64, Nat.min_eq_left, Int.toNat_of_nonneg]
   exact ⟨_, _, by omega, .refl _, k + 1, b2, rfl, by omega, rfl, hkp, hr, rfl⟩
 ·obtain rfl : k = 8 := by omega
  simp only [push_cast, simprocAttr]
  rw [hr]
  rfl
end Go.Ab
end
section
namespace Go.Ab
open Go.Proofs
variable {G : Glo} {h : Heap}
end Go.Ab
end
section
namespace Go.Ab
open Go.Proofs
variable {G : Glo} {h : Heap}
structure IWd where
 regs : List (BitVec 32)
 size : Int
 b : List (BitVec 8)
 w : BitVec 16
def IWd.cells (w : IWd) : List AV := wds w.regs ++ [.int .i64 w.size, byt w.b, .int .u16 w.w.toNat]
end Go.Ab
end
section
namespace Go.Ab
open Go.Proofs
variable {G : Glo} {h : Heap}
@[push_cast] theorem abin_and_u16 (a b : Int) : abin .and (.int .u16 a) (.int .u16 b) = some (.int .u16 ((BitVec.ofInt 16 a &&& BitVec.ofInt 16 b).toNat : Int)) := by
 show (if IntKind.u16 = IntKind.u16 then some (AV.int .u16 (IntKind.u16.wrap ((BitVec.ofInt 16 a &&& BitVec.ofInt 16 b).toNat : Int))) else none) = _
 rw [if_pos rfl, wr_u16, ofInt_toNat, BitVec.setWidth_eq]
def MemTo (h : Heap) (M : IRam) (r : AV) (h' : Heap) : Prop := ∃ l : Pl, r = .ptr l.p 0 ∧ RamAt h' l M ∧ (∀ c, l.has c → h c = none) ∧ ∀ c, ¬ l.has c → h' c = h c
end Go.Ab
end
section
namespace Go.Ab
open Go.Proofs
variable {G : Glo} {h : Heap}
end Go.Ab
end
section
namespace Go.Ab
open Go.Proofs
variable {G : Glo} {h : Heap}
def del (h : Heap) (b : Nat) : Heap := fun c => if c = b then none else h c
theorem del_at {h : Heap} {b c : Nat} : del h b c = if c = b then none else h c := rfl
theorem del_ne {h : Heap} {b c : Nat} (hc : c ≠ b) : del h b c = h c := if_neg hc
theorem upd_del {h : Heap} {b : Nat} {x : Blk} (hb : h b = some x) : h = upd (del h b) b x := by
 funext c
 simp only [upd_at, del_at]
 split
 ·rename_i e; rw [e, hb]
 ·rfl
theorem Le.own {h : Heap} {b n cap : Nat} {cells : List AV} {sp : Nat} (hb : h b = some ⟨cells, sp⟩) (h0 : n = 0 → cells = []) : Le (.sl b 0 n cap) h (.ro cells n) (del h b) := by
 have := Le.freeze (g := del h b) (b := b) (n := n) (cap := cap) (pre := []) (cells := cells) (sp := sp) (by simp [del_at]) h0
 rw [List.nil_append, ← upd_del hb] at this
 exact this
theorem Le.less {r : AV} {h g : Heap} (hs : Sub g h) : Le r h r g := by
 intro w v hw hr
 obtain ⟨l1, l2⟩ := hrep_less hw hs
 exact ⟨l1, hr.keep ⟨Nat.le_refl _, fun c _ hn => ⟨fun hd => hn fun e => hd (hs.none e), rfl⟩, fun _ h => h⟩, fun c hc => hs.none hc⟩
def IRam.cells (M : IRam) : List AV := [byt M.b, .ro (bos M.w) M.w.length, .ro (qws M.g) M.g.length]
abbrev ramV (M : IRam) : AV := .agg M.cells
end Go.Ab
end
section
namespace Go.Ab
open Go.Proofs
variable {G : Glo} {h : Heap}
end Go.Ab
end
section
namespace Go.Ab
open Go.Proofs
variable {G : Glo} {h : Heap}
structure Bag (h H : Heap) (l : List (Nat × Blk)) : Prop where
 get : ∀ p ∈ l, H p.1 = some p.2
 new : ∀ p ∈ l, h p.1 = none
 nd : (l.map (·.1)).Nodup
 sub : Sub h H
theorem Bag.alloc {h H : Heap} {l : List (Nat × Blk)} {b : Nat} (x : Blk) (hB : Bag h H l) (hb : H b = none) : Bag h (upd H b x) ((b, x) :: l) := by
 have hne : ∀ p ∈ l, p.1 ≠ b := fun p hp e => by rw [← e, hB.get p hp] at hb; cases hb
 refine ⟨fun p hp => ?_, fun p hp => ?_, ?_, hB.sub.alloc hb⟩
 ·rcases List.mem_cons.1 hp with rfl | hp
  ·exact upd_same _ _ _
  ·rw [upd_ne (hne p hp)]; exact hB.get p hp
 ·rcases List.mem_cons.1 hp with rfl | hp
  ·exact hB.sub.none hb
  ·exact hB.new p hp
 ·simp only [List.map_cons, List.nodup_cons]
  refine ⟨fun q => ?_, hB.nd⟩
  obtain ⟨p, hp, e⟩ := List.mem_map.1 q
  exact hne p hp e
theorem Bag.app {h H : Heap} {l r : List (Nat × Blk)} {b b' : Nat} {x : Blk} (y : Blk) (hB : Bag h H l) (hp : l.Perm ((b, x) :: r)) (hb : b' = b ∨ H b' = none) : Bag h (upd (era H b) b' y) ((b', y) :: r) := by
 have hnd : (((b, x) :: r).map (·.1)).Nodup := (hp.map _).nodup_iff.1 hB.nd
 simp only [List.map_cons, List.nodup_cons] at hnd
 have hbr : ∀ p ∈ r, p.1 ≠ b := fun p hp e => hnd.1 (e ▸ List.mem_map_of_mem hp)
 have hg : ∀ p ∈ r, H p.1 = some p.2 := fun p q => hB.get p (hp.mem_iff.2 (List.mem_cons_of_mem _ q))
 have hn : ∀ p ∈ r, h p.1 = none := fun p q => hB.new p (hp.mem_iff.2 (List.mem_cons_of_mem _ q))
 have hbn : h b = none := hB.new (b, x) (hp.mem_iff.2 (by simp))
 have hb'n : h b' = none := by
  rcases hb with rfl | q
  ·exact hbn
  ·exact hB.sub.none q
 have hne : ∀ p ∈ r, p.1 ≠ b' := fun p q e => by
  rcases hb with rfl | hb
  ·exact hbr p q e
  ·rw [← e, hg p q] at hb; cases hb
 refine ⟨fun p q => ?_, fun p q => ?_, ?_, fun c z hc => ?_⟩
 ·rcases List.mem_cons.1 q with rfl | q
  ·exact upd_same _ _ _
  ·rw [upd_ne (hne p q), era, if_neg (hbr p q)]; exact hg p q
 ·rcases List.mem_cons.1 q with rfl | q
  ·exact hb'n
  ·exact hn p q
 ·simp only [List.map_cons, List.nodup_cons]
  refine ⟨fun q => ?_, hnd.2⟩
  obtain ⟨p, hp, e⟩ := List.mem_map.1 q
  exact hne p hp e
 ·have h1 : c ≠ b := fun e => by rw [e, hbn] at hc; cases hc
  have h2 : c ≠ b' := fun e => by rw [e, hb'n] at hc; cases hc
  rw [upd_ne h2, era, if_neg h1]
  exact hB.sub c z hc
theorem Bag.set {h H : Heap} {r : List (Nat × Blk)} {b : Nat} {x : Blk} (y : Blk) (hB : Bag h H ((b, x) :: r)) : Bag h (upd H b y) ((b, y) :: r) := by
 have hnd := hB.nd
 simp only [List.map_cons, List.nodup_cons] at hnd
 refine ⟨fun p q => ?_, fun p q => ?_, hB.nd, hB.sub.set (hB.new (b, x) (by simp))⟩
 ·rcases List.mem_cons.1 q with rfl | q
  ·exact upd_same _ _ _
  ·have hpb : p.1 ≠ b := fun e => hnd.1 (by rw [← e]; exact List.mem_map_of_mem q)
   rw [upd_ne hpb]; exact hB.get p (List.mem_cons_of_mem _ q)
 ·rcases List.mem_cons.1 q with rfl | q
  ·exact hB.new (b, x) (by simp)
  ·exact hB.new p (List.mem_cons_of_mem _ q)
theorem Bag.at {h H : Heap} {l : List (Nat × Blk)} {b : Nat} {x : Blk} (hB : Bag h H l) (hm : (b, x) ∈ l) : H b = some x := hB.get (b, x) hm
theorem Le.aggp {h : Heap} {b n cap i : Nat} {pre cells : List AV} {L : List AV} {sp : Nat} (hi : L[i]? = some (.sl b pre.length n cap)) (hb : h b = some ⟨pre ++ cells, sp⟩) (h0 : n = 0 → cells = []) : Le (.agg L) h (.agg (L.set i (.ro cells n))) (del h b) := by
 have hd : del h b b = none := by simp [del_at]
 rw [upd_del hb]
 have e2 : del (upd (del h b) b ⟨pre ++ cells, sp⟩) b = del h b := by rw [← upd_del hb]
 rw [e2]
 intro w v hw hr
 obtain ⟨cs, rfl, hl, h1, hr1⟩ := rep_agg hr
 have hsub : Sub (del h b) (upd (del h b) b ⟨pre ++ cells, sp⟩) := (Sub.refl _).alloc hd
 obtain ⟨l1, _⟩ := hrep_less hw hsub
 have hk : Keeps w (upd (del h b) b ⟨pre ++ cells, sp⟩).dom w (del h b).dom := ⟨Nat.le_refl _, fun c _ hn => ⟨fun hd => hn fun e => hd (hsub.none e), rfl⟩, fun _ h => h⟩
 refine ⟨l1, .agg _ _ (by simpa using hl) h1 fun j u c e1 e2 => ?_, fun c hc => hsub.none hc⟩
 rw [List.getElem?_set] at e1
 split at e1
 ·rename_i hij
  subst hij
  split at e1
  ·cases e1
   exact (Le.freeze hd h0 w c hw (hr1 i _ c hi e2)).2.1
  ·cases e1
 ·exact (hr1 j u c e1 e2).keep hk
section
variable {M : IRam}
def OwnR (h : Heap) (M : IRam) (r : AV) (F : Heap) : Prop := ∃ bw pw cw sw bg pg cg sg, r = .agg [byt M.b, .sl bw (List.length pw) M.w.length cw, .sl bg (List.length pg) M.g.length cg] ∧ F bw = some ⟨pw ++ bos M.w, sw⟩ ∧ F bg = some ⟨pg ++ qws M.g, sg⟩ ∧ bw ≠ bg ∧
 (h bw = none ∧ h bg = none) ∧ Sub h F
theorem OwnR.le {r : AV} {F : Heap} (ho : OwnR h M r F) : Le r F (ramV M) h := by
 obtain ⟨bw, pw, cw, sw, bg, pg, cg, sg, rfl, h1, h2, hne, ⟨h4, h5⟩, h6⟩ := ho
 have e1 := Le.aggp (i := 1) (L := [byt M.b, .sl bw (List.length pw) M.w.length cw, .sl bg (List.length pg) M.g.length cg]) rfl h1 (fun e => by simp [bos, List.length_eq_zero_iff.1 e])
 have e2 := Le.aggp (h := del F bw) (i := 2) (L := [byt M.b, .ro (bos M.w) M.w.length, .sl bg (List.length pg) M.g.length cg]) rfl (sp := sg) (by rw [del_ne (Ne.symm hne)]; exact h2) (fun e => by simp [qws, List.length_eq_zero_iff.1 e])
 refine le_trans e1 (le_trans e2 (Le.less fun c x hc => ?_))
 rw [del_ne (fun e => by rw [e, h5] at hc; cases hc), del_ne (fun e => by rw [e, h4] at hc; cases hc)]
 exact h6 c x hc
structure SI (h : Heap) (M : IRam) (addr w : BitVec 32) (n : Nat) (B : List (BitVec 8)) (c8 b19 bw cw sw b23 bg cg sg c10 : Nat) (pw pg : List AV) (pre : List Nat) (ρ : Env) (H : Heap) : Prop where
 k1 : lk ρ 1 = .int .u32 addr.toNat
 k8 : lk ρ 8 = .ptr c8 0
 k12 : lk ρ 12 = .cp M.cells 0
 k13 : lk ρ 13 = byt M.b
 k14 : lk ρ 14 = .int .u32 addr.toNat
 k15 : lk ρ 15 = .int .u32 w.toNat
 k16 : lk ρ 16 = .int .i64 n
 k4 : lk ρ 4 = .cp M.cells 0
 k2 : lk ρ 2 = .int .i64 n
 k3 : lk ρ 3 = .int .u32 w.toNat
 k20 : lk ρ 20 = .cp M.cells 1
 k21 : lk ρ 21 = .ro (bos M.w) M.w.length
 k24 : lk ρ 24 = .cp M.cells 2
 k25 : lk ρ 25 = .ro (qws M.g) M.g.length
 f5 : 5 ∈ pre → lk ρ 17 = byt (leB w n)
 f6 : 6 ∈ pre → lk ρ 18 = byt B
 f7 : 7 ∈ pre → lk ρ 19 = .sl b19 0 0 0
 f10 : 10 ∈ pre → lk ρ 22 = .sl bw (List.length pw) M.w.length cw
 f11 : 11 ∈ pre → lk ρ 23 = .sl b23 0 0 0
 f14 : 14 ∈ pre → lk ρ 26 = .sl bg (List.length pg) M.g.length cg
 f15 : 15 ∈ pre → lk ρ 27 = .agg [byt B, .sl bw (List.length pw) M.w.length cw, .sl bg (List.length pg) M.g.length cg]
 f16 : 16 ∈ pre → lk ρ 10 = .ptr c10 0
 d10 : 10 ∈ pre → 7 ∈ pre
 d14 : 14 ∈ pre → 11 ∈ pre
 d15 : 15 ∈ pre → 6 ∈ pre ∧ 10 ∈ pre ∧ 14 ∈ pre
 d17 : 17 ∈ pre → 15 ∈ pre ∧ 16 ∈ pre
 bag : Bag h H ((if 10 ∈ pre then [(bw, ⟨pw ++ bos M.w, sw⟩)] else if 7 ∈ pre then [(b19, ⟨[], 0⟩)] else []) ++ ((if 14 ∈ pre then [(bg, ⟨pg ++ qws M.g, sg⟩)] else if 11 ∈ pre then [(b23, ⟨[], 0⟩)] else []) ++
  ((if 17 ∈ pre then [(c10, ⟨[byt B, .sl bw (List.length pw) M.w.length cw, .sl bg (List.length pg) M.g.length cg], 0⟩)] else if 16 ∈ pre then [(c10, ⟨[.nils, .nils, .nils], 0⟩)] else []) ++ [(c8, ⟨[.nils, .nils, .nils], 0⟩)])))
end
end Go.Ab
end
section
namespace Go.Ab
open Go.Proofs
variable {G : Glo} {h : Heap}
end Go.Ab
end
section
namespace Go.Ab
open Go.Proofs
variable {G : Glo} {h : Heap}
def VV (H : Heap) (vv : AV) (vals : List (BitVec 32)) : Prop := ∃ c pre cap sp, vv = .sl c (List.length pre) vals.length cap ∧ H c = some ⟨pre ++ wds vals, sp⟩
section
variable {regs : List (BitVec 32)} {pc : BitVec 32} {done why exit : Int} {T : List AV}
end
end Go.Ab
end
section
namespace Go.Ab
open Go.Proofs
variable {G : Glo} {h : Heap}
def RowV (g : Heap) (vv : AV) (vals : List (BitVec 32)) (H : Heap) : Prop := ∃ c pre cap sp, vv = .sl c (List.length pre) vals.length cap ∧ g c = none ∧ cap ≤ vals.length + sp ∧ H = upd g c ⟨pre ++ wds vals, sp⟩
theorem RowV.vv {g H : Heap} {vv : AV} {vals : List (BitVec 32)} (hr : RowV g vv vals H) : VV H vv vals := by
 obtain ⟨c, pre, cap, sp, h1, h2, h3, rfl⟩ := hr
 exact ⟨c, pre, cap, sp, h1, upd_same _ _ _⟩
theorem RowV.app {g H : Heap} {vv : AV} {vals : List (BitVec 32)} (hr : RowV g vv vals H) (w : BitVec 32) (hn : vals.length ≤ 1000) {Q : AV → Heap → Prop} (hq : ∀ v' H', RowV g v' (vals ++ [w]) H' → Q v' H') : appQ 1 4 1 [.int .u32 w.toNat] vv H Q := by
 obtain ⟨c, pre, cap, sp, rfl, h2, h3, rfl⟩ := hr
 have ho : Own 1 g (.sl c pre.length vals.length cap) (wds vals) vals.length (upd g c ⟨pre ++ wds vals, sp⟩) := .row c vals.length cap pre (wds vals) sp h2 (by simp [wds]) (by omega)
 refine ho.app (m := 1) rfl (by omega) (by omega) fun v' h' ho2 => ?_
 have hX : wds vals ++ [AV.int .u32 w.toNat] = wds (vals ++ [w]) := by simp [wds]
 have hN : vals.length + 1 = (vals ++ [w]).length := by simp
 rw [hX, hN] at ho2
 generalize (vals ++ [w]) = U at ho2 hq hN
 generalize hU : wds U = X at ho2
 generalize hL : U.length = N at ho2
 cases ho2 with
 | nil => omega
 | row c' _ cap' pre' cells sp' hb hl hc => exact hq _ _ ⟨c', pre', cap', sp', by rw [hL], hb, by rw [hL]; simpa using hc, by rw [hU]⟩
theorem RowV.get {g H : Heap} {vv : AV} {vals : List (BitVec 32)} (hr : RowV g vv vals H) {b : Nat} {x : Blk} (hb : g b = some x) : H b = some x := by
 obtain ⟨c, pre, cap, sp, rfl, h2, h3, rfl⟩ := hr
 rw [upd_ne (fun e => by rw [e, h2] at hb; cases hb)]
 exact hb
theorem RowV.set {g H : Heap} {vv : AV} {vals : List (BitVec 32)} (hr : RowV g vv vals H) {b : Nat} {x : Blk} (y : Blk) (hb : g b = some x) : RowV (upd g b y) vv vals (upd H b y) := by
 obtain ⟨c, pre, cap, sp, rfl, h2, h3, rfl⟩ := hr
 have hne : c ≠ b := fun e => by rw [e, hb] at h2; cases h2
 exact ⟨c, pre, cap, sp, rfl, by rw [upd_ne hne]; exact h2, h3, upd_comm hne⟩
theorem RowV.sub {g H : Heap} {vv : AV} {vals : List (BitVec 32)} (hr : RowV g vv vals H) : Sub g H := by
 obtain ⟨c, pre, cap, sp, rfl, h2, h3, rfl⟩ := hr
 exact (Sub.refl g).alloc h2
theorem RowV.alloc {g H : Heap} {vv : AV} {vals : List (BitVec 32)} (hr : RowV g vv vals H) {b : Nat} (y : Blk) (hb : H b = none) : RowV (upd g b y) vv vals (upd H b y) := by
 obtain ⟨c, pre, cap, sp, rfl, h2, h3, rfl⟩ := hr
 have hne : c ≠ b := fun e => by rw [e, upd_same] at hb; cases hb
 exact ⟨c, pre, cap, sp, rfl, by rw [upd_ne hne]; exact h2, h3, upd_comm hne⟩
section
variable {M : IRam} {b : IBk} {regs : List (BitVec 32)}
end
end Go.Ab
end
section
namespace Go.Ab
open Go.Proofs
variable {G : Glo} {h : Heap}
theorem MemTo.sub {M : IRam} {l : Pl} {H : Heap} (hn : ∀ c, l.has c → h c = none) (ho : ∀ c, ¬ l.has c → H c = h c) : Sub h H := by
 intro c x hc
 rw [ho c (fun q => by rw [hn c q] at hc; cases hc)]
 exact hc
end Go.Ab
end
section
namespace Go.Ab
open Go.Proofs
variable {G : Glo} {h : Heap}
section
variable {b : IBk} {w : IWd} {n : Nat} {l : Pl} {M' : IRam} {Ro : List (BitVec 32)} {pc : BitVec 32} {d y x : Int}
end
end Go.Ab
end
section
namespace Go.Ab
open Go.Proofs
variable {G : Glo} {h : Heap}
theorem light33_spec (b : IBk) (he : b.exits.length ≤ 9223372036854775807) : Spec Tryz.prog G 7 [.agg b.cells] h (Is (.bool b.light) h) := by
 have hL : b.light = (! b.heavy && allN b.exits.length fun i => decide ((b.exits.getD i IEx.zero).map.length ≤ 100)) := rfl
 have hH : b.heavy = (decide (b.pcs.length > 100) || (decide (b.ops.length > 100) && decide (b.ops.length ≤ 512)) || decide (b.ops.length > 600) || decide (b.exits.length > 200)) := rfl
 generalize b.light = L at hL ⊢
 refine Spec.is C7ok rfl ?_
 simp only [push_cast, simprocAttr]
 refine ⟨fun h1 => ⟨fun h2 => ?_, fun h2 => ?_⟩, fun h1 => ?_⟩
 ·have : b.heavy = true := by rw [hH]; simp only [Bool.or_eq_true, Bool.and_eq_true, decide_eq_true_eq]; omega
  rw [hL, this]; rfl
 ·have : b.heavy = false := by
   rw [hH, ← Bool.not_eq_true]
   simp only [Bool.or_eq_true, Bool.and_eq_true, decide_eq_true_eq]
   rw [← Bool.not_eq_true] at h2
   simp only [Bool.and_eq_true, decide_eq_true_eq] at h2
   omega
  rw [this, Bool.not_false, Bool.true_and] at hL
  refine lpc.rel [1, 3] (fun m ρ h' => ∃ k : Nat, m = b.exits.length - k ∧ k ≤ b.exits.length ∧ h = h' ∧ (∀ i, i < k → decide ((b.exits.getD i IEx.zero).map.length ≤ 100) = true) ∧
   ρ = [(1, .cp b.cells 0), (3, .int .i64 (k : Int))]) ⟨_, 0, rfl, by omega, rfl, by intro i hi; omega, rfl⟩ ?_
  rintro m _ _ ⟨k, rfl, hk, rfl, hall, rfl⟩
  simp only [push_cast, simprocAttr]
  refine ⟨fun hk2 => ⟨hk2, hk2, fun hv => ?_, fun hv => ?_⟩, fun hk2 => ?_⟩
  ·rw [hL, allN_false k hk2 (decide_eq_false (by omega))]
  ·simp (disch := omega) only [push_cast, simprocAttr, wrap_i64, toNat_ofInt64, Nat.min_eq_left, Int.toNat_of_nonneg]
   refine ⟨_, _, by omega, .refl _, k + 1, rfl, by omega, rfl, fun i hi => ?_, rfl⟩
   by_cases hik : i = k
   ·subst hik; omega
   ·exact of_decide_eq_true (hall i (by omega))
  ·obtain rfl : k = b.exits.length := by omega
   rw [hL, allN_true hall]
 ·have : b.heavy = true := by rw [hH]; simp only [Bool.or_eq_true, Bool.and_eq_true, decide_eq_true_eq]; omega
  rw [hL, this]; rfl
def W33 : IBk := ⟨[0], [⟨1, 0, 0, 1, 0, 0⟩, ⟨2, 0, 0, 0, 0, 0⟩, ⟨3, 0, 1, 28, 0, 0⟩], [⟨1, 0, -1, 4, [⟨1, 2⟩]⟩], 0⟩
def W33z : IBk := ⟨[0], [], [⟨1, 0, -1, 4, []⟩], 0⟩
theorem W33_check : W33.check = 0 := by decide
theorem W33_wf : W33.wf := by
 refine ⟨by decide, by decide, by decide, ?_, by decide, by decide, by decide, ?_⟩ <;> decide
end Go.Ab
end
section
namespace Go.Ab
open Go.Proofs
variable {G : Glo} {h : Heap}
def W33a : IBk := ⟨[0], [⟨1, 0, 0, 1, 0, 0⟩, ⟨2, 0, 0, 0, 0, 0⟩], [⟨1, 0, -1, 4, [⟨1, 0⟩]⟩], 0⟩
theorem W33_fold : W33.ps foldF = W33a := by decide
theorem W33_num : W33a.ps numF = W33a := by decide
theorem W33_gd : W33a.gd = W33a := by decide
theorem W33_ask : askN W33a = fun _ => false := by
 funext k
 rw [← Bool.not_eq_true, askN_iff]
 intro hS
 refine hS (fun _ => False) ⟨fun j _ h => h.elim, fun k hk h4 => ?_, fun n hn _ h => ?_, fun n hn _ v hv ho => ?_⟩
 ·match k, hk with
  | 0, _ => simp [W33a, IBk.op] at h4
  | 1, _ => simp [W33a, IBk.op] at h4
 ·match n, hn with
  | 0, _ => exact h rfl
 ·match n, hn with
  | 0, _ =>
   have : v = ⟨1, 0⟩ := by simpa [W33a, IBk.ex] using hv
   subst this
   revert ho
   decide
theorem W33_dd : W33a.dd (askN W33a) = W33z := by rw [W33_ask]; decide
theorem W33z_fold : W33z.ps foldF = W33z := by decide
theorem W33z_num : W33z.ps numF = W33z := by decide
theorem W33z_gd : W33z.gd = W33z := by decide
theorem W33z_dd : W33z.dd (askN W33z) = W33z := by
 have : ∀ kp, W33z.dd kp = W33z := fun kp => rfl
 exact this _
theorem bits15 : bitM 15 1 = true ∧ bitM 15 2 = true ∧ bitM 15 4 = true ∧ bitM 15 8 = true := by decide
theorem round15 (b : IBk) : roundN 15 b = ((((b.ps foldF).ps numF).gd).dd (askN (((b.ps foldF).ps numF).gd))) := by
 obtain ⟨h1, h2, h3, h4⟩ := bits15
 unfold roundN
 simp only [roundK, h1, h2, h3, h4, if_true]
 rfl
theorem W33_run : runP 15 8 W33 = W33z := by
 have r1 : roundN 15 W33 = W33z := by rw [round15, W33_fold, W33_num, W33_gd, W33_dd]
 have r2 : roundN 15 W33z = W33z := by rw [round15, W33z_fold, W33z_num, W33z_gd, W33z_dd]
 rw [runP, r1, if_neg (by decide), runP, r2, if_pos rfl]
theorem W33z_wf : W33z.wf := by
 refine ⟨by decide, by decide, by decide, ?_, by decide, by decide, by decide, ?_⟩ <;> decide
theorem awake33_spec : Spec Tryz.prog G 8 [] h (Is (.bool true) h) := by
 have hR := fun h : Heap => Run_spec (G := G) (h := h) W33 15 W33_wf W33_check
 rw [W33_run] at hR
 have s1 := fun h : Heap => Size_spec (G := G) (h := h) W33 W33_wf (by decide)
 have s2 := fun h : Heap => Size_spec (G := G) (h := h) W33z W33z_wf (by decide)
 have e1 : (if W33.check = 0 then (W33.size : Int) else 0) = 5 := by decide
 have e2 : (if W33z.check = 0 then (W33z.size : Int) else 0) = 1 := by decide
 simp only [e1] at s1
 simp only [e2] at s2
 refine Spec.is C8ok rfl ?_
 simp only [push_cast, simprocAttr]
 intro b hb
 refine ⟨bkP W33, h, Le.box hb, ?_⟩
 simp only [push_cast, simprocAttr]
 refine (hR _).to ?_
 have hz : W33z.ops.length = 0 := rfl
 simp only [push_cast, simprocAttr, hz]
 refine (s1 _).to ?_
 simp only [push_cast, simprocAttr]
 refine (s2 _).to ?_
 simp only [push_cast, simprocAttr]
end Go.Ab
end
section
namespace Go.Ab
open Go.Proofs
variable {G : Glo} {h : Heap}
end Go.Ab
end
section
namespace Go.Ab
open Go.Proofs
variable {G : Glo} {h : Heap}
theorem code_le6 {b : IBk} {k : Nat} (hk : b.opR k = true) : (b.ops.getD k IOp.zero).code ≤ 6 := by
 rw [opR_eq b k rfl] at hk
 generalize b.ops.getD k IOp.zero = o at hk
 (repeat' split at hk) <;> first | omega | cases hk
theorem rnames_spec (to : List Int) (o : IOp) (hR : renOK to o) (h6 : o.code ≤ 6) : Spec Tryz.prog G 77 [.agg o.cells, ints to] h (Is (.agg (ren to o).cells) h) := by
 obtain ⟨hR1, hR2⟩ := hR
 have key : ∀ b2 b4 : Nat, h b2 = none → upd h b2 ⟨o.cells, 0⟩ b4 = none → b4 ≠ b2 ∧ b2 ≠ b4 ∧ h b4 = none := fun b2 b4 h2 h4 => ⟨(upd_none h4).1, Ne.symm (upd_none h4).1, (upd_none h4).2⟩
 by_cases c : o.code = 3 ∨ o.code = 5 ∨ o.code = 6
 ·obtain ⟨⟨a0, a1⟩, b0, b1⟩ := hR1 c
  have e : ren to o = { o with a := to.getD o.a.toNat 0, b := to.getD o.b.toNat 0 } := by unfold ren; rw [if_pos c]
  have qa : o.a.toNat < to.length := by omega
  have qb : o.b.toNat < to.length := by omega
  rw [e]
  refine Spec.is C77ok rfl ?_
  rcases c with c | c | c <;>
  ·simp only [push_cast, simprocAttr]
   intro b2 hb2 b4 hb4
   obtain ⟨n1, n2, hb4'⟩ := key b2 b4 hb2 hb4
   simp only [push_cast, simprocAttr, upd_at, n1, n2, c, a0, a1, b0, b1, qa, qb]
   (repeat first | refine sub_upd hb2 ?_ | refine sub_upd hb4' ?_); exact .refl _
 by_cases c4 : o.code = 4
 ·obtain ⟨a0, a1⟩ := hR2 c4
  have e : ren to o = { o with a := to.getD o.a.toNat 0 } := by unfold ren; rw [if_neg c, if_pos c4]
  have qa : o.a.toNat < to.length := by omega
  rw [e]
  refine Spec.is C77ok rfl ?_
  simp only [push_cast, simprocAttr]
  intro b2 hb2 b4 hb4
  obtain ⟨n1, n2, hb4'⟩ := key b2 b4 hb2 hb4
  simp only [push_cast, simprocAttr, upd_at, n1, n2, c4, a0, a1, qa]
  (repeat first | refine sub_upd hb2 ?_ | refine sub_upd hb4' ?_); exact .refl _
 ·have e : ren to o = o := by unfold ren; rw [if_neg c, if_neg c4]
  have c3 : ¬ (o.code ≥ 3) := by omega
  have c3' : ¬ (o.code = 3) := by omega
  have c5 : ¬ (o.code ≥ 5) := by omega
  rw [e]
  refine Spec.is C77ok rfl ?_
  simp only [push_cast, simprocAttr]
  intro b2 hb2 b4 hb4
  obtain ⟨n1, n2, hb4'⟩ := key b2 b4 hb2 hb4
  simp only [push_cast, simprocAttr, upd_at, n1, n2, c3, c3', c5]
  (repeat first | refine sub_upd hb2 ?_ | refine sub_upd hb4' ?_); exact .refl _
section
variable {l : List IOp} {x y : Int}
theorem ris_spec (n : Nat) (hn : n < 4294967296) (h0 : 0 ≤ x) (h1 : x < l.length) : Spec Tryz.prog G 113 [ops l, .int .i64 x, .int .u32 n] h (Is (.bool (isK l x n)) h) := by
 have q : x.toNat < l.length := by omega
 have hI : isK l x n = (decide ((l.getD x.toNat IOp.zero).code = 2) && decide ((l.getD x.toNat IOp.zero).imm.toNat = n)) := rfl
 have hq := num32 (l.getD x.toNat IOp.zero).imm n hn
 rw [hI]
 refine Spec.is C113ok rfl ?_
 by_cases c : (l.getD x.toNat IOp.zero).code = 2
 ·simp only [push_cast, simprocAttr, q, h0, h1, c, hq]
  try simp
 ·simp only [push_cast, simprocAttr, q, h0, h1, c, hq]
  try simp
theorem rshift_spec (h0 : 0 ≤ x) (h1 : x < l.length) : Spec Tryz.prog G 114 [ops l, .int .i64 x] h (Is (.bool (shK l x)) h) := by
 have q : x.toNat < l.length := by omega
 have hI : shK l x = (decide ((l.getD x.toNat IOp.zero).code = 2) && decide ((l.getD x.toNat IOp.zero).imm.toNat % 32 = 0)) := rfl
 have hq : (((l.getD x.toNat IOp.zero).imm.toNat : Int).tmod 32 == 0) = decide ((l.getD x.toNat IOp.zero).imm.toNat % 32 = 0) := by
  rw [Bool.eq_iff_iff, beq_iff_eq, decide_eq_true_eq, show ((l.getD x.toNat IOp.zero).imm.toNat : Int).tmod 32 = (((l.getD x.toNat IOp.zero).imm.toNat % 32 : Nat) : Int) from rfl]
  omega
 rw [hI]
 refine Spec.is C114ok rfl ?_
 by_cases c : (l.getD x.toNat IOp.zero).code = 2
 ·simp only [push_cast, simprocAttr, q, h0, h1, c, hq]
  try simp
 ·simp only [push_cast, simprocAttr, q, h0, h1, c, hq]
  try simp
end
theorem rplain28_spec (n : Int) : Spec Tryz.prog G 79 [.int .i64 n] h (Is (.int .i64 (plF n)) h) := by
 have k1 := rHas7_spec (G := G) (h := h) n
 have hb : (decide (19 ≤ n) && decide (n ≤ 37)) = decide (19 ≤ n ∧ n ≤ 37) := by rw [Bool.eq_iff_iff]; simp
 rw [hb] at k1
 clear hb
 unfold plF
 refine Spec.is C79ok rfl ?_
 by_cases c : 19 ≤ n ∧ n ≤ 37
 ·have k2 := rPlain_spec (G := G) (h := h) n c
  have := plain_rng n c
  rw [if_neg (by omega)]
  rw [decide_eq_true c] at k1
  simp only [push_cast, simprocAttr]
  refine k1.to ?_
  simp only [push_cast, simprocAttr]
  refine k2.to ?_
  simp only [push_cast, simprocAttr]
 ·rw [plain_out n c, if_pos rfl]
  rw [decide_eq_false c] at k1
  simp only [push_cast, simprocAttr]
  refine k1.to ?_
  simp only [push_cast, simprocAttr]
theorem rturns_spec (p : Int) : Spec Tryz.prog G 141 [.int .i64 p] h (Is (.bool (turN p)) h) := by
 unfold turN
 refine Spec.is C141ok rfl ?_
 by_cases c : p = 28 ∨ p = 36 ∨ p = 33 ∨ p = 37 ∨ p = 50 ∨ p = 51 ∨ p = 53
 ·rcases c with rfl | rfl | rfl | rfl | rfl | rfl | rfl <;>
  ·simp only [push_cast, simprocAttr]
   try simp
 ·have d1 : ¬ p = 28 := by omega
  have d2 : ¬ p = 36 := by omega
  have d3 : ¬ p = 33 := by omega
  have d4 : ¬ p = 37 := by omega
  have d5 : ¬ p = 50 := by omega
  have d6 : ¬ p = 51 := by omega
  have d7 : ¬ p = 53 := by omega
  simp only [push_cast, simprocAttr, d1, d2, d3, d4, d5, d6, d7]
  try simp [d1, d2, d3, d4, d5, d6, d7]
theorem rother_spec (n : Int) : Spec Tryz.prog G 117 [.int .i64 n] h (Is (.int .i64 (otherN n)) h) := by
 unfold otherN
 by_cases c : 5 ≤ n ∧ n ≤ 10
 ·rcases (show n = 5 ∨ n = 6 ∨ n = 7 ∨ n = 8 ∨ n = 9 ∨ n = 10 by omega) with rfl | rfl | rfl | rfl | rfl | rfl <;>
  ·refine Spec.is C117ok rfl ?_
   simp (disch := omega) only [push_cast, simprocAttr, wrap_i64, toNat_ofInt64, Nat.min_eq_left, Int.toNat_of_nonneg]
   try rfl
 ·rw [if_neg (by omega), if_neg (by omega)]
  refine Spec.is C117ok rfl ?_
  by_cases c1 : n < 5
  ·simp only [push_cast, simprocAttr, c1]
  ·have c2 : n > 10 := by omega
   simp only [push_cast, simprocAttr, c1, c2]
theorem bit_spec (mask : Nat) (k : Nat) (hm : mask < 4294967296) (hk : k < 4294967296) : Spec Tryz.prog G 39 [.int .i64 mask, .int .i64 k] h (Is (.bool (decide (mask / 2 ^ k % 2 = 1))) h) := by
 refine Spec.is C39ok rfl ?_
 simp only [push_cast, simprocAttr]
 refine lpc.rel [0, 1, 5] (fun m ρ h' => ∃ i q : Nat, m = k - i ∧ i ≤ k ∧ q = mask / 2 ^ i ∧ h = h' ∧ ρ = [(0, .int .i64 (q : Int)), (1, .int .i64 (k : Int)), (5, .int .i64 (i : Int))]) ⟨_, 0, mask, rfl, by omega, by simp, rfl, rfl⟩ ?_
 rintro m _ _ ⟨i, q, rfl, hi, hq, rfl, rfl⟩
 have hle : mask / 2 ^ i ≤ mask := Nat.div_le_self _ _
 have e : mask / 2 ^ (i + 1) = mask / 2 ^ i / 2 := by rw [Nat.pow_succ, Nat.div_div_eq_div_mul]
 rw [← hq] at hle e
 have t1 : ((q : Int).tdiv 2) = ((q / 2 : Nat) : Int) := rfl
 have t2 : ((q : Int).tmod 2) = ((q % 2 : Nat) : Int) := rfl
 by_cases c : i < k
 ·simp (disch := omega) only [push_cast, simprocAttr, wrap_i64, toNat_ofInt64, Nat.min_eq_left, Int.toNat_of_nonneg, c, t1, t2]
  exact ⟨_, _, by omega, .refl _, i + 1, q / 2, rfl, by omega, e.symm, rfl, rfl⟩
 ·obtain rfl : i = k := by omega
  rw [← hq]
  have c' : ¬ ((i : Int) < i) := by omega
  simp (disch := omega) only [push_cast, simprocAttr, wrap_i64, toNat_ofInt64, Nat.min_eq_left, Int.toNat_of_nonneg, c', t1, t2, Nat.lt_irrefl]
  congr 1
  rw [Bool.eq_iff_iff, beq_iff_eq, decide_eq_true_eq]
  omega
end Go.Ab
end
section
namespace Go.Ab
open Go.Proofs
variable {G : Glo} {h : Heap}
theorem isK_isC {l : List IOp} {v : Int} {n : Nat} (h : isCN l v = false) : isK l v n = false := by
 unfold isCN at h; unfold isK; rw [h]; rfl
theorem isK_two {l : List IOp} {v : Int} {n m : Nat} (hn : n ≠ m) (h : isK l v n = true) : isK l v m = false := by
 unfold isK at *
 simp only [Bool.and_eq_true, decide_eq_true_eq] at h
 rw [h.2, decide_eq_false hn, Bool.and_false]
def standsN (l : List IOp) (p x y : Int) : Int := if 0 ≤ stdN l p x y then stdN l p x y else if nothN l p x y then -2 else -1
structure StH (G : Glo) (h : Heap) (l : List IOp) (x y : Int) (e y0 x0 y1 x1 yF xF sy : Bool) : Prop where
 e : (x == y) = e
 y0 : Spec Tryz.prog G 113 [ops l, .int .i64 y, .int .u32 0] h (Is (.bool y0) h)
 x0 : Spec Tryz.prog G 113 [ops l, .int .i64 x, .int .u32 0] h (Is (.bool x0) h)
 y1 : Spec Tryz.prog G 113 [ops l, .int .i64 y, .int .u32 1] h (Is (.bool y1) h)
 x1 : Spec Tryz.prog G 113 [ops l, .int .i64 x, .int .u32 1] h (Is (.bool x1) h)
 yF : Spec Tryz.prog G 113 [ops l, .int .i64 y, .int .u32 4294967295] h (Is (.bool yF) h)
 xF : Spec Tryz.prog G 113 [ops l, .int .i64 x, .int .u32 4294967295] h (Is (.bool xF) h)
 sy : Spec Tryz.prog G 114 [ops l, .int .i64 y] h (Is (.bool sy) h)
section
variable {l : List IOp} {x y : Int} {e y0 x0 y1 x1 yF xF sy : Bool}
theorem rst28 (k : StH G h l x y e y0 x0 y1 x1 yF xF sy) : Spec Tryz.prog G 78 [ops l, .int .i64 28, .int .i64 x, .int .i64 y] h (Is (.int .i64 (if y0 then x else if x0 then y else -1)) h) := by
 obtain ⟨ke, ky0, kx0, ky1, kx1, kyF, kxF, ksy⟩ := k
 cases e <;>
 ·refine Spec.is C78ok rfl ?_
  simp only [push_cast, simprocAttr, ke]
  all_goals (try (refine ky0.to ?_; cases y0 <;> simp only [push_cast, simprocAttr, ke]))
  all_goals (try (refine kx0.to ?_; cases x0 <;> simp only [push_cast, simprocAttr, ke]))
  all_goals (try rfl)
theorem rst36 (k : StH G h l x y e y0 x0 y1 x1 yF xF sy) : Spec Tryz.prog G 78 [ops l, .int .i64 36, .int .i64 x, .int .i64 y] h (Is (.int .i64 (if y0 then x else if x0 then y else if e then x else -1)) h) := by
 obtain ⟨ke, ky0, kx0, ky1, kx1, kyF, kxF, ksy⟩ := k
 cases e <;>
 ·refine Spec.is C78ok rfl ?_
  simp only [push_cast, simprocAttr, ke]
  all_goals (try (refine ky0.to ?_; cases y0 <;> simp only [push_cast, simprocAttr, ke]))
  all_goals (try (refine kx0.to ?_; cases x0 <;> simp only [push_cast, simprocAttr, ke]))
  all_goals (try rfl)
theorem rst33 (k : StH G h l x y e y0 x0 y1 x1 yF xF sy) : Spec Tryz.prog G 78 [ops l, .int .i64 33, .int .i64 x, .int .i64 y] h (Is (.int .i64 (if y0 then x else if x0 then y else if e then -2 else -1)) h) := by
 obtain ⟨ke, ky0, kx0, ky1, kx1, kyF, kxF, ksy⟩ := k
 cases e <;>
 ·refine Spec.is C78ok rfl ?_
  simp only [push_cast, simprocAttr, ke]
  all_goals (try (refine ky0.to ?_; cases y0 <;> simp only [push_cast, simprocAttr, ke]))
  all_goals (try (refine kx0.to ?_; cases x0 <;> simp only [push_cast, simprocAttr, ke]))
  all_goals (try rfl)
theorem rst29 (k : StH G h l x y e y0 x0 y1 x1 yF xF sy) : Spec Tryz.prog G 78 [ops l, .int .i64 29, .int .i64 x, .int .i64 y] h (Is (.int .i64 (if y0 then x else if e then -2 else -1)) h) := by
 obtain ⟨ke, ky0, kx0, ky1, kx1, kyF, kxF, ksy⟩ := k
 cases e <;>
 ·refine Spec.is C78ok rfl ?_
  simp only [push_cast, simprocAttr, ke]
  all_goals (try (refine ky0.to ?_; cases y0 <;> simp only [push_cast, simprocAttr, ke]))
  all_goals (try rfl)
theorem rst30 (k : StH G h l x y e y0 x0 y1 x1 yF xF sy) : Spec Tryz.prog G 78 [ops l, .int .i64 30, .int .i64 x, .int .i64 y] h (Is (.int .i64 (if sy then x else -1)) h) := by
 obtain ⟨ke, ky0, kx0, ky1, kx1, kyF, kxF, ksy⟩ := k
 cases e <;>
 ·refine Spec.is C78ok rfl ?_
  simp only [push_cast, simprocAttr, ke]
  all_goals (try (refine ksy.to ?_; cases sy <;> simp only [push_cast, simprocAttr, ke]))
  all_goals (try rfl)
theorem rst34 (k : StH G h l x y e y0 x0 y1 x1 yF xF sy) : Spec Tryz.prog G 78 [ops l, .int .i64 34, .int .i64 x, .int .i64 y] h (Is (.int .i64 (if sy then x else -1)) h) := by
 obtain ⟨ke, ky0, kx0, ky1, kx1, kyF, kxF, ksy⟩ := k
 cases e <;>
 ·refine Spec.is C78ok rfl ?_
  simp only [push_cast, simprocAttr, ke]
  all_goals (try (refine ksy.to ?_; cases sy <;> simp only [push_cast, simprocAttr, ke]))
  all_goals (try rfl)
theorem rst35 (k : StH G h l x y e y0 x0 y1 x1 yF xF sy) : Spec Tryz.prog G 78 [ops l, .int .i64 35, .int .i64 x, .int .i64 y] h (Is (.int .i64 (if sy then x else -1)) h) := by
 obtain ⟨ke, ky0, kx0, ky1, kx1, kyF, kxF, ksy⟩ := k
 cases e <;>
 ·refine Spec.is C78ok rfl ?_
  simp only [push_cast, simprocAttr, ke]
  all_goals (try (refine ksy.to ?_; cases sy <;> simp only [push_cast, simprocAttr, ke]))
  all_goals (try rfl)
theorem rst37 (k : StH G h l x y e y0 x0 y1 x1 yF xF sy) : Spec Tryz.prog G 78 [ops l, .int .i64 37, .int .i64 x, .int .i64 y] h (Is (.int .i64 (if e then x else if yF then x else if xF then y else if y0 || x0 then -2 else -1)) h) := by
 obtain ⟨ke, ky0, kx0, ky1, kx1, kyF, kxF, ksy⟩ := k
 cases e <;>
 ·refine Spec.is C78ok rfl ?_
  simp only [push_cast, simprocAttr, ke]
  all_goals (try (refine kyF.to ?_; cases yF <;> simp only [push_cast, simprocAttr, ke]))
  all_goals (try (refine kxF.to ?_; cases xF <;> simp only [push_cast, simprocAttr, ke]))
  all_goals (try (refine ky0.to ?_; cases y0 <;> simp only [push_cast, simprocAttr, ke]))
  all_goals (try (refine kx0.to ?_; cases x0 <;> simp only [push_cast, simprocAttr, ke]))
  all_goals (try rfl)
theorem rst50 (k : StH G h l x y e y0 x0 y1 x1 yF xF sy) : Spec Tryz.prog G 78 [ops l, .int .i64 50, .int .i64 x, .int .i64 y] h (Is (.int .i64 (if y0 || x0 then -2 else if y1 then x else if x1 then y else -1)) h) := by
 obtain ⟨ke, ky0, kx0, ky1, kx1, kyF, kxF, ksy⟩ := k
 cases e <;>
 ·refine Spec.is C78ok rfl ?_
  simp only [push_cast, simprocAttr, ke]
  all_goals (try (refine ky0.to ?_; cases y0 <;> simp only [push_cast, simprocAttr, ke]))
  all_goals (try (refine kx0.to ?_; cases x0 <;> simp only [push_cast, simprocAttr, ke]))
  all_goals (try (refine ky1.to ?_; cases y1 <;> simp only [push_cast, simprocAttr, ke]))
  all_goals (try (refine kx1.to ?_; cases x1 <;> simp only [push_cast, simprocAttr, ke]))
  all_goals (try rfl)
theorem rst31 (k : StH G h l x y e y0 x0 y1 x1 yF xF sy) : Spec Tryz.prog G 78 [ops l, .int .i64 31, .int .i64 x, .int .i64 y] h (Is (.int .i64 (if e then -2 else -1)) h) := by
 obtain ⟨ke, ky0, kx0, ky1, kx1, kyF, kxF, ksy⟩ := k
 cases e <;>
 ·refine Spec.is C78ok rfl ?_
  simp only [push_cast, simprocAttr, ke]
  all_goals (try rfl)
theorem rst32 (k : StH G h l x y e y0 x0 y1 x1 yF xF sy) : Spec Tryz.prog G 78 [ops l, .int .i64 32, .int .i64 x, .int .i64 y] h (Is (.int .i64 (if e || y0 then -2 else -1)) h) := by
 obtain ⟨ke, ky0, kx0, ky1, kx1, kyF, kxF, ksy⟩ := k
 cases e <;>
 ·refine Spec.is C78ok rfl ?_
  simp only [push_cast, simprocAttr, ke]
  all_goals (try (refine ky0.to ?_; cases y0 <;> simp only [push_cast, simprocAttr, ke]))
  all_goals (try rfl)
theorem rst55 (k : StH G h l x y e y0 x0 y1 x1 yF xF sy) : Spec Tryz.prog G 78 [ops l, .int .i64 55, .int .i64 x, .int .i64 y] h (Is (.int .i64 (if y1 then x else -1)) h) := by
 obtain ⟨ke, ky0, kx0, ky1, kx1, kyF, kxF, ksy⟩ := k
 cases e <;>
 ·refine Spec.is C78ok rfl ?_
  simp only [push_cast, simprocAttr, ke]
  all_goals (try (refine ky1.to ?_; cases y1 <;> simp only [push_cast, simprocAttr, ke]))
  all_goals (try rfl)
theorem rstO (k : StH G h l x y e y0 x0 y1 x1 yF xF sy) {p : Int} (hp : ¬ p = 28 ∧ ¬ p = 36 ∧ ¬ p = 33 ∧ ¬ p = 29 ∧ ¬ p = 30 ∧ ¬ p = 34 ∧ ¬ p = 35 ∧ ¬ p = 37 ∧ ¬ p = 50 ∧ ¬ p = 31 ∧ ¬ p = 32 ∧ ¬ p = 55) : Spec Tryz.prog G 78 [ops l, .int .i64 p, .int .i64 x, .int .i64 y] h (Is (.int .i64 (-1)) h) := by
 obtain ⟨d0, d1, d2, d3, d4, d5, d6, d7, d8, d9, d10, d11⟩ := hp
 have ke := k.e
 clear k
 have b0 : (p == 28) = false := by simpa using d0
 have b1 : (p == 36) = false := by simpa using d1
 have b2 : (p == 33) = false := by simpa using d2
 have b3 : (p == 29) = false := by simpa using d3
 have b4 : (p == 30) = false := by simpa using d4
 have b5 : (p == 34) = false := by simpa using d5
 have b6 : (p == 35) = false := by simpa using d6
 have b7 : (p == 37) = false := by simpa using d7
 have b8 : (p == 50) = false := by simpa using d8
 have b9 : (p == 31) = false := by simpa using d9
 have b10 : (p == 32) = false := by simpa using d10
 have b11 : (p == 55) = false := by simpa using d11
 cases e <;>
 ·refine Spec.is C78ok rfl ?_
  simp only [push_cast, simprocAttr, ke, b0, b1, b2, b3, b4, b5, b6, b7, b8, b9, b10, b11, Bool.or_false]
  try rfl
end
theorem rstands_spec {l : List IOp} {x y : Int} (p : Int) (hx0 : 0 ≤ x) (hx1 : x < l.length) (hy0 : 0 ≤ y) (hy1 : y < l.length) (hnc : (isCN l x && isCN l y) = false) :
  Spec Tryz.prog G 78 [ops l, .int .i64 p, .int .i64 x, .int .i64 y] h (Is (.int .i64 (standsN l p x y)) h) := by
 have k : StH G h l x y (decide (x = y)) (isK l y 0) (isK l x 0) (isK l y 1) (isK l x 1) (isK l y 4294967295) (isK l x 4294967295) (shK l y) :=
  ⟨rfl, ris_spec 0 (by omega) hy0 hy1, ris_spec 0 (by omega) hx0 hx1, ris_spec 1 (by omega) hy0 hy1, ris_spec 1 (by omega) hx0 hx1, ris_spec 4294967295 (by omega) hy0 hy1, ris_spec 4294967295 (by omega) hx0 hx1, rshift_spec hy0 hy1⟩
 have h50 : (isK l y 0 || isK l x 0) = true → isK l y 1 = false ∧ isK l x 1 = false := by
  intro q
  rw [Bool.or_eq_true] at q
  rw [Bool.and_eq_false_iff] at hnc
  rcases q with q | q
  ·rcases hnc with c | c
   ·exact ⟨isK_two (by omega) q, isK_isC c⟩
   ·rw [isK_isC c] at q; cases q
  ·rcases hnc with c | c
   ·rw [isK_isC c] at q; cases q
   ·exact ⟨isK_isC c, isK_two (by omega) q⟩
 have hxx : x = y → isK l x 0 = isK l y 0 ∧ isK l x 4294967295 = isK l y 4294967295 ∧ isK l x 1 = isK l y 1 := fun e => by rw [e]; exact ⟨rfl, rfl, rfl⟩
 have hyx : (y = x) = (x = y) := propext ⟨Eq.symm, Eq.symm⟩
 unfold standsN stdN neuN turF nothN
 simp only [hyx]
 clear hnc hx1 hy1
 have d0 : 0 ≤ x := hx0
 have d1 : 0 ≤ y := hy0
 generalize isK l y 0 = y0 at *
 generalize isK l x 0 = x0 at *
 generalize isK l y 1 = y1 at *
 generalize isK l x 1 = x1 at *
 generalize isK l y 4294967295 = yF at *
 generalize isK l x 4294967295 = xF at *
 generalize shK l y = sy at *
 by_cases c28 : p = 28
 ·subst c28
  refine (rst28 k).mono fun r h' q => ⟨q.1.trans (congrArg _ ?_), q.2⟩
  clear k q
  by_cases e : x = y
  ·obtain ⟨e1, e2, e3⟩ := hxx e
   subst e
   subst e1 e2 e3
   revert h50
   cases x0 <;> cases x1 <;> cases xF <;> cases sy <;> simp <;> omega
  ·rw [decide_eq_false e]
   revert h50
   cases y0 <;> cases x0 <;> cases y1 <;> cases x1 <;> cases yF <;> cases xF <;> cases sy <;> simp [e] <;> omega
 by_cases c36 : p = 36
 ·subst c36
  refine (rst36 k).mono fun r h' q => ⟨q.1.trans (congrArg _ ?_), q.2⟩
  clear k q
  by_cases e : x = y
  ·obtain ⟨e1, e2, e3⟩ := hxx e
   subst e
   subst e1 e2 e3
   revert h50
   cases x0 <;> cases x1 <;> cases xF <;> cases sy <;> simp <;> omega
  ·rw [decide_eq_false e]
   revert h50
   cases y0 <;> cases x0 <;> cases y1 <;> cases x1 <;> cases yF <;> cases xF <;> cases sy <;> simp [e] <;> omega
 by_cases c33 : p = 33
 ·subst c33
  refine (rst33 k).mono fun r h' q => ⟨q.1.trans (congrArg _ ?_), q.2⟩
  clear k q
  by_cases e : x = y
  ·obtain ⟨e1, e2, e3⟩ := hxx e
   subst e
   subst e1 e2 e3
   revert h50
   cases x0 <;> cases x1 <;> cases xF <;> cases sy <;> simp <;> omega
  ·rw [decide_eq_false e]
   revert h50
   cases y0 <;> cases x0 <;> cases y1 <;> cases x1 <;> cases yF <;> cases xF <;> cases sy <;> simp [e] <;> omega
 by_cases c29 : p = 29
 ·subst c29
  refine (rst29 k).mono fun r h' q => ⟨q.1.trans (congrArg _ ?_), q.2⟩
  clear k q
  by_cases e : x = y
  ·obtain ⟨e1, e2, e3⟩ := hxx e
   subst e
   subst e1 e2 e3
   revert h50
   cases x0 <;> cases x1 <;> cases xF <;> cases sy <;> simp <;> omega
  ·rw [decide_eq_false e]
   revert h50
   cases y0 <;> cases x0 <;> cases y1 <;> cases x1 <;> cases yF <;> cases xF <;> cases sy <;> simp [e] <;> omega
 by_cases c30 : p = 30
 ·subst c30
  refine (rst30 k).mono fun r h' q => ⟨q.1.trans (congrArg _ ?_), q.2⟩
  clear k q
  by_cases e : x = y
  ·obtain ⟨e1, e2, e3⟩ := hxx e
   subst e
   subst e1 e2 e3
   revert h50
   cases x0 <;> cases x1 <;> cases xF <;> cases sy <;> simp <;> omega
  ·rw [decide_eq_false e]
   revert h50
   cases y0 <;> cases x0 <;> cases y1 <;> cases x1 <;> cases yF <;> cases xF <;> cases sy <;> simp [e] <;> omega
 by_cases c34 : p = 34
 ·subst c34
  refine (rst34 k).mono fun r h' q => ⟨q.1.trans (congrArg _ ?_), q.2⟩
  clear k q
  by_cases e : x = y
  ·obtain ⟨e1, e2, e3⟩ := hxx e
   subst e
   subst e1 e2 e3
   revert h50
   cases x0 <;> cases x1 <;> cases xF <;> cases sy <;> simp <;> omega
  ·rw [decide_eq_false e]
   revert h50
   cases y0 <;> cases x0 <;> cases y1 <;> cases x1 <;> cases yF <;> cases xF <;> cases sy <;> simp [e] <;> omega
 by_cases c35 : p = 35
 ·subst c35
  refine (rst35 k).mono fun r h' q => ⟨q.1.trans (congrArg _ ?_), q.2⟩
  clear k q
  by_cases e : x = y
  ·obtain ⟨e1, e2, e3⟩ := hxx e
   subst e
   subst e1 e2 e3
   revert h50
   cases x0 <;> cases x1 <;> cases xF <;> cases sy <;> simp <;> omega
  ·rw [decide_eq_false e]
   revert h50
   cases y0 <;> cases x0 <;> cases y1 <;> cases x1 <;> cases yF <;> cases xF <;> cases sy <;> simp [e] <;> omega
 by_cases c37 : p = 37
 ·subst c37
  refine (rst37 k).mono fun r h' q => ⟨q.1.trans (congrArg _ ?_), q.2⟩
  clear k q
  by_cases e : x = y
  ·obtain ⟨e1, e2, e3⟩ := hxx e
   subst e
   subst e1 e2 e3
   revert h50
   cases x0 <;> cases x1 <;> cases xF <;> cases sy <;> simp <;> omega
  ·rw [decide_eq_false e]
   revert h50
   cases y0 <;> cases x0 <;> cases y1 <;> cases x1 <;> cases yF <;> cases xF <;> cases sy <;> simp [e] <;> omega
 by_cases c50 : p = 50
 ·subst c50
  refine (rst50 k).mono fun r h' q => ⟨q.1.trans (congrArg _ ?_), q.2⟩
  clear k q
  by_cases e : x = y
  ·obtain ⟨e1, e2, e3⟩ := hxx e
   subst e
   subst e1 e2 e3
   revert h50
   cases x0 <;> cases x1 <;> cases xF <;> cases sy <;> simp <;> omega
  ·rw [decide_eq_false e]
   revert h50
   cases y0 <;> cases x0 <;> cases y1 <;> cases x1 <;> cases yF <;> cases xF <;> cases sy <;> simp [e] <;> omega
 by_cases c31 : p = 31
 ·subst c31
  refine (rst31 k).mono fun r h' q => ⟨q.1.trans (congrArg _ ?_), q.2⟩
  clear k q
  by_cases e : x = y
  ·obtain ⟨e1, e2, e3⟩ := hxx e
   subst e
   subst e1 e2 e3
   revert h50
   cases x0 <;> cases x1 <;> cases xF <;> cases sy <;> simp <;> omega
  ·rw [decide_eq_false e]
   revert h50
   cases y0 <;> cases x0 <;> cases y1 <;> cases x1 <;> cases yF <;> cases xF <;> cases sy <;> simp [e] <;> omega
 by_cases c32 : p = 32
 ·subst c32
  refine (rst32 k).mono fun r h' q => ⟨q.1.trans (congrArg _ ?_), q.2⟩
  clear k q
  by_cases e : x = y
  ·obtain ⟨e1, e2, e3⟩ := hxx e
   subst e
   subst e1 e2 e3
   revert h50
   cases x0 <;> cases x1 <;> cases xF <;> cases sy <;> simp <;> omega
  ·rw [decide_eq_false e]
   revert h50
   cases y0 <;> cases x0 <;> cases y1 <;> cases x1 <;> cases yF <;> cases xF <;> cases sy <;> simp [e] <;> omega
 by_cases c55 : p = 55
 ·subst c55
  refine (rst55 k).mono fun r h' q => ⟨q.1.trans (congrArg _ ?_), q.2⟩
  clear k q
  by_cases e : x = y
  ·obtain ⟨e1, e2, e3⟩ := hxx e
   subst e
   subst e1 e2 e3
   revert h50
   cases x0 <;> cases x1 <;> cases xF <;> cases sy <;> simp <;> omega
  ·rw [decide_eq_false e]
   revert h50
   cases y0 <;> cases x0 <;> cases y1 <;> cases x1 <;> cases yF <;> cases xF <;> cases sy <;> simp [e] <;> omega
 ·refine (rstO k ⟨c28, c36, c33, c29, c30, c34, c35, c37, c50, c31, c32, c55⟩).mono fun r h' q => ⟨q.1.trans (congrArg _ ?_), q.2⟩
  simp [c28, c36, c33, c29, c30, c34, c35, c37, c50, c31, c32, c55]
end Go.Ab
end
section
namespace Go.Ab
open Go.Proofs
variable {G : Glo} {h : Heap}
theorem exOK_get {to : List Int} {e : IEx} (ok : exOK to e) {j : Nat} (hj : j < e.map.length) : 0 ≤ (e.map.getD j IVl.zero).val ∧ (e.map.getD j IVl.zero).val < to.length := by
 refine ok.2 _ ?_
 rw [List.getD_eq_getElem?_getD, List.getElem?_eq_getElem hj]
 exact List.getElem_mem hj
theorem rex_body {es : List IEx} {to : List Int} {h2 : Heap} {k b7 : Nat} {v : AV} {cells : List AV} {e : IEx} {Q : Exit → Env → Heap → Prop} (hown : Own 5 h v cells k h2) (hb7 : h2 b7 = none) (hk : k < es.length) (hl : es.length ≤ 1000000000000) (hok : exOK to e) (hml : e.map.length ≤ 1000000000000)
  (e4 : (es.flatMap IEx.cells)[k * 5 + 4]? = some (vls e.map)) (hq : ∀ ρ v' H' h6, lk ρ 0 = exs es → lk ρ 1 = ints to → lk ρ 5 = v' → lk ρ 6 = .int .i64 (k : Int) → Sub h6 H' → Own 5 h v' (cells ++ (renE to e).cells) (k + 1) h6 → Q .normal ρ H') :
  wpc Tryz.prog G Tryz.f59.ntmps C59_25 Q [(0, exs es), (1, ints to), (5, v), (6, .int .i64 (k : Int)), (7, .ptr b7 0)] (Ab.upd h2 b7 ⟨[.int .i64 e.done, .int .u32 (e.pc.toNat : Int), .int .i64 (renE to e).to, .int .i64 e.why, .nils], 0⟩) := by
 simp only [push_cast, simprocAttr]
 generalize hT : (renE to e).to = T
 refine lpc.rel [0, 1, 5, 6, 7, 8] (fun m ρ h' => ∃ (j : Nat) (v7 : AV), m = e.map.length - j ∧ j ≤ e.map.length ∧ Own 2 (Ab.upd h2 b7 ⟨[.int .i64 e.done, .int .u32 (e.pc.toNat : Int), .int .i64 T, .int .i64 e.why, v7], 0⟩) v7 (((e.map.map (renV to)).take j).flatMap IVl.cells) j h' ∧
  ρ = [(0, exs es), (1, ints to), (5, v), (6, .int .i64 (k : Int)), (7, .ptr b7 0), (8, .int .i64 (j : Int))]) ⟨_, 0, .nils, rfl, by omega, .nil, rfl⟩ ?_
 rintro m _ g2 ⟨j, v7, rfl, hj, ho7, rfl⟩
 have hg7 := ho7.get (upd_same _ _ _)
 by_cases hj2 : j < e.map.length
 ·obtain ⟨q1, q2⟩ := exOK_get hok hj2
  have q3 : (e.map.getD j IVl.zero).val.toNat < to.length := by omega
  have hsn := flat_snoc IVl.cells (e.map.map (renV to)) IVl.zero j (by simpa using hj2)
  rw [show (e.map.map (renV to)).getD j IVl.zero = renV to (e.map.getD j IVl.zero) by simp [hj2]] at hsn
  simp only [push_cast, simprocAttr, hg7, hk, e4, hj2, q1, q2, q3]
  refine Own.app ho7 (m := 1) rfl (by omega) (by omega) fun v8 h8 ho8 => ?_
  have hg8 := ho8.get (upd_same _ _ _)
  have ho9 := Own.upd ho8 (b := b7) (x := ⟨[.int .i64 e.done, .int .u32 (e.pc.toNat : Int), .int .i64 T, .int .i64 e.why, v8], 0⟩) (.inr ⟨_, upd_same _ _ _⟩)
  rw [upd_upd] at ho9
  simp (disch := omega) only [push_cast, simprocAttr, wrap_i64, toNat_ofInt64, Nat.min_eq_left, Int.toNat_of_nonneg, hg8, ho8.one]
  exact ⟨_, _, by omega, .refl _, j + 1, v8, rfl, by omega, by rw [hsn]; exact ho9, rfl⟩
 ·obtain rfl : j = e.map.length := by omega
  rw [List.take_of_length_le (by simp)] at ho7
  simp only [push_cast, simprocAttr, hg7, hk, e4, hj2]
  refine wkQ.cell ho7 (cs' := (renE to e).cells) rfl (fun i => ?_) ?_
  ·match i with
   | 0 => exact .inl rfl
   | 1 => exact .inl rfl
   | 2 => exact .inl (by rw [← hT]; rfl)
   | 3 => exact .inl rfl
   | 4 => exact .inr ⟨rfl, by simp [renE, IEx.cells]⟩
   | i + 5 => exact .inl rfl
  clear hg7 ho7 hj2 v7 g2
  subst hT
  have ho' := Own.upd hown (b := b7) (x := ⟨(renE to e).cells, 0⟩) (.inl hb7)
  simp only [push_cast, simprocAttr]
  refine Own.app ho' (m := 1) (IEx.len _) (by omega) (by omega) fun v4 h4 ho4 => ?_
  simp only [push_cast, simprocAttr, ho4.one]
  obtain ⟨h6, hs6, ho6⟩ := Own.drop ho4 (hown.sub.none hb7)
  exact hq _ v4 _ h6 rfl rfl rfl rfl hs6 ho6
theorem rExits_spec (es : List IEx) (to : List Int) (ok : ∀ k, k < es.length → exOK to (es.getD k IEx.zero)) (hl : es.length ≤ 1000000000000) (hm : ∀ k, k < es.length → (es.getD k IEx.zero).map.length ≤ 1000000000000) :
  Spec Tryz.prog G 59 [exs es, ints to] h (Is (exs (es.map (renE to))) h) := by
 refine Spec.is C59ok rfl ?_
 simp only [push_cast, simprocAttr]
 intro b8 hb8
 refine lpc.rel [0, 1, 5, 6] (fun m ρ h' => ∃ (k : Nat) (v : AV), m = es.length - k ∧ k ≤ es.length ∧ Own 5 h v (((es.map (renE to)).take k).flatMap IEx.cells) k h' ∧
  ρ = [(0, exs es), (1, ints to), (5, v), (6, .int .i64 (k : Int))]) ⟨_, 0, _, rfl, by omega, own_new hb8, rfl⟩ ?_
 rintro m _ h2 ⟨k, v, rfl, hk, hown, rfl⟩
 by_cases hk2 : k < es.length
 ·have hok := ok k hk2
  have hml := hm k hk2
  have hsn := flat_snoc IEx.cells (es.map (renE to)) IEx.zero k (by simpa using hk2)
  rw [show (es.map (renE to)).getD k IEx.zero = renE to (es.getD k IEx.zero) by simp [hk2]] at hsn
  have e0 := flat_getD IEx.cells 5 es IEx.zero IEx.len k 0 (by omega)
  have e1 := flat_getD IEx.cells 5 es IEx.zero IEx.len k 1 (by omega)
  have e2 := flat_getD IEx.cells 5 es IEx.zero IEx.len k 2 (by omega)
  have e3 := flat_getD IEx.cells 5 es IEx.zero IEx.len k 3 (by omega)
  have e4 := flat_getD IEx.cells 5 es IEx.zero IEx.len k 4 (by omega)
  rw [if_pos hk2] at e0 e1 e2 e3 e4
  rw [Nat.add_zero] at e0
  generalize es.getD k IEx.zero = e at *
  have hB := fun b7 hb7 Q hq => rex_body (Q := Q) (G := G) (b7 := b7) hown hb7 hk2 hl hok hml e4 hq
  have ht' : (renE to e).to = if e.to = -1 then -1 else to.getD e.to.toNat 0 := rfl
  show wpc _ _ _ (.seq [0, 1, 5, 6] C59_5 (.seq [0, 1, 5, 6] (.block 1 (.seq [0, 1, 5, 6, 7] C59_6 (.seq [0, 1, 5, 6, 7] C59_10 C59_25))) C59_29)) _ _ _
  generalize C59_25 = Y at hB ⊢
  by_cases ht : e.to = -1
  ·rw [if_pos ht] at ht'
   rw [ht'] at hB
   simp only [push_cast, simprocAttr, hk2, e0, e1, e2, e3, e4, ht]
   intro b7 hb7
   refine hB b7 hb7 _ fun ρ v' H' h6 l0 l1 l5 l6 hs o => ?_
   simp (disch := omega) only [push_cast, simprocAttr, wrap_i64, toNat_ofInt64, Nat.min_eq_left, Int.toNat_of_nonneg, l0, l1, l5, l6]
   exact ⟨_, h6, by omega, hs, k + 1, v', rfl, by omega, by rw [hsn]; exact o, rfl⟩
  ·rw [if_neg ht] at ht'
   obtain ⟨q1, q2⟩ := hok.1.resolve_left ht
   have q3 : e.to.toNat < to.length := by omega
   rw [ht'] at hB
   simp only [push_cast, simprocAttr, hk2, e0, e1, e2, e3, e4, ht, q1, q2, q3]
   intro b7 hb7
   refine hB b7 hb7 _ fun ρ v' H' h6 l0 l1 l5 l6 hs o => ?_
   simp (disch := omega) only [push_cast, simprocAttr, wrap_i64, toNat_ofInt64, Nat.min_eq_left, Int.toNat_of_nonneg, l0, l1, l5, l6]
   exact ⟨_, h6, by omega, hs, k + 1, v', rfl, by omega, by rw [hsn]; exact o, rfl⟩
 ·obtain rfl : k = es.length := by omega
  rw [List.take_of_length_le (by simp)] at hown
  simp only [push_cast, simprocAttr, hk2]
  refine wkQ.own hown ?_
  simp only [push_cast, simprocAttr]
  simp
end Go.Ab
end
section
namespace Go.Ab
open Go.Proofs
variable {G : Glo} {h : Heap}
theorem borrow_agg {P : Program} {f : FuncId} {args args' : List AV} {h : Heap} {cells : List AV} (hs : Spec P G f args' noH (Is (.agg cells) noH)) (ha : Args1 h args args') (hv : cells.all flatV = true) : Spec P G f args h (Is (.agg cells) h) := by
 intro w vs k1 k2 k3
 refine (hs w vs (fun b x hx => by cases hx) ⟨fun g => by rw [noH_dom]; exact rep_noO (k2.1 g), fun x v e => by rw [noH_dom]; exact rep_noO (k2.2 x v e)⟩ (by rw [noH_dom]; exact ha.rep k1 k3)).mono ?_
 rintro e w' ⟨v, r, h1, he, q, _, m2, m3⟩
 obtain ⟨rfl, rfl⟩ := q
 have hk : Keeps w h.dom w' h.dom := ⟨m3.size, fun b hb hn => ⟨hn, (m3.blk b hb rfl).2⟩, m3.cel⟩
 obtain ⟨cs, rfl, hl, h1, hr⟩ := rep_agg m2
 refine ⟨_, .agg cells, h, he, ⟨rfl, rfl⟩, fun b x hb => own_keep (k1 b x hb) (m3.blk b (own_lt (k1 b x hb)) rfl).2 hk, .agg cells cs hl h1 fun i a c ha hc => rep_flat1 ?_ (hr i a c ha hc), ⟨m3.size, fun b hb hn => ⟨hn, (m3.blk b hb rfl).2⟩, m3.cel, m3.os, m3.tape, m3.out⟩⟩
 exact List.all_eq_true.1 hv a (List.mem_of_getElem? ha)
def TwoO (g : Heap) (vl : AV) (l : List IOp) (vt : AV) (to : List Int) (H : Heap) : Prop := ∃ h1, Own 6 g vl (l.flatMap IOp.cells) l.length h1 ∧ Own 1 h1 vt (to.map (.int .i64)) to.length H
section
variable {g H : Heap} {vl vt : AV} {l : List IOp} {to : List Int} {b : Nat} {x : Blk}
theorem TwoO.of {h1 : Heap} (o1 : Own 1 g vt (to.map (.int .i64)) to.length h1) (o2 : Own 6 h1 vl (l.flatMap IOp.cells) l.length H) : TwoO g vl l vt to H := own_swap o1 o2
theorem TwoO.get (hr : TwoO g vl l vt to H) (hb : g b = some x) : H b = some x := by
 obtain ⟨h1, o1, o2⟩ := hr
 exact o2.get (o1.get hb)
theorem TwoO.none (hr : TwoO g vl l vt to H) (hb : H b = Option.none) : g b = Option.none := by
 obtain ⟨h1, o1, o2⟩ := hr
 exact o1.sub.none (o2.sub.none hb)
theorem TwoO.argT (hr : TwoO g vl l vt to H) : Arg1 H vt (ints to) := by
 obtain ⟨h1, o1, o2⟩ := hr
 have := o2.arg
 simpa using this
theorem TwoO.argL (hr : TwoO g vl l vt to H) : Arg1 H vl (ops l) := by
 obtain ⟨h1, o1, o2⟩ := hr
 obtain ⟨h2, o3, o4⟩ := own_swap o1 o2
 exact o4.arg
theorem TwoO.upd (hr : TwoO g vl l vt to H) (hb : H b = Option.none ∨ ∃ y, g b = some y) : TwoO (Ab.upd g b x) vl l vt to (Ab.upd H b x) := by
 obtain ⟨h1, o1, o2⟩ := hr
 rcases hb with hb | ⟨y, hb⟩
 ·exact ⟨_, o1.upd (.inl (o2.sub.none hb)), o2.upd (.inl hb)⟩
 ·exact ⟨_, o1.upd (.inr ⟨y, hb⟩), o2.upd (.inr ⟨y, o1.get hb⟩)⟩
theorem TwoO.drop (hr : TwoO (Ab.upd g b x) vl l vt to H) (hb : g b = Option.none) : ∃ H1, Sub H1 H ∧ TwoO g vl l vt to H1 := by
 obtain ⟨h1, o1, o2⟩ := hr
 obtain ⟨h2, s1, o3⟩ := o1.drop hb
 obtain ⟨h3, o4, s2⟩ := own_small s1 o2
 exact ⟨h3, s2, h2, o3, o4⟩
theorem TwoO.appT (hr : TwoO g vl l vt to H) (y : Int) (hn : to.length + 1 ≤ 1000000000000) {Q : AV → Heap → Prop} (hq : ∀ v' h', TwoO g vl l v' (to ++ [y]) h' → Q v' h') : appQ 1 8 1 [.int .i64 y] vt H Q := by
 obtain ⟨h1, o1, o2⟩ := hr
 refine Own.app o2 (m := 1) rfl (by omega) (by omega) fun v' h' o => hq v' h' ⟨h1, o1, by simpa using o⟩
theorem TwoO.appL (hr : TwoO g vl l vt to H) (o : IOp) (hn : l.length + 1 ≤ 1000000000000) {Q : AV → Heap → Prop} (hq : ∀ v' h', TwoO g v' (l ++ [o]) vt to h' → Q v' h') : appQ 6 48 1 o.cells vl H Q := by
 obtain ⟨h1, o1, o2⟩ := hr
 obtain ⟨h2, o3, o4⟩ := own_swap o1 o2
 exact Own.app o4 (m := 1) (IOp.len _) (by omega) (by omega) fun v' h' o => hq v' h' (.of o3 (by simpa using o))
theorem TwoO.one (hr : TwoO g vl l vt to H) : cellsOf vt = some [vt] ∧ cellsOf vl = some [vl] ∧ alen vl = some l.length := by
 obtain ⟨h1, o1, o2⟩ := hr
 exact ⟨o2.one, o1.one, o1.alen⟩
theorem TwoO.lieL (hr : TwoO g vl l vt to H) (hn : 0 < l.length) : ∃ b pre cap sp, vl = .sl b pre.length l.length cap ∧ H b = some ⟨pre ++ l.flatMap IOp.cells, sp⟩ ∧ g b = Option.none := by
 obtain ⟨h1, o1, o2⟩ := hr
 obtain ⟨b, pre, cap, sp, e1, e2, e3, _⟩ := own_lie o1 hn
 exact ⟨b, pre, cap, sp, e1, o2.get e2, e3⟩
theorem TwoO.lieT (hr : TwoO g vl l vt to H) (hn : 0 < to.length) : ∃ b pre cap sp, vt = .sl b pre.length to.length cap ∧ H b = some ⟨pre ++ to.map (.int .i64), sp⟩ ∧ g b = Option.none := by
 obtain ⟨h1, o1, o2⟩ := hr
 obtain ⟨b, pre, cap, sp, e1, e2, e3, _⟩ := own_lie o2 hn
 exact ⟨b, pre, cap, sp, e1, e2, o1.sub.none e3⟩
theorem TwoO.freeze {K : AV → Heap → Prop} (hr : TwoO g vl l vt to H) (hq : ∀ h1, Own 6 g vl (l.flatMap IOp.cells) l.length h1 → K (ints to) h1) : wkQ K vt H := by
 obtain ⟨h1, o1, o2⟩ := hr
 have := o2.freeze
 exact ⟨_, _, by simpa using this, hq h1 o1⟩
end
theorem rfold_tail {g H : Heap} {vl vt : AV} {l : List IOp} {to : List Int} {b6 b2 : Nat} {o : IOp} {u w : AV} {vv : Int} {Q : Exit → Env → Heap → Prop} (hr : TwoO (Ab.upd g b6 ⟨o.cells, 0⟩) vl l vt to H) (hl : l.length + 1 ≤ 1000000000000) (ht : to.length + 1 ≤ 1000000000000)
  (hq1 : 0 ≤ vv → ∀ ρ vt' H', lk ρ 1 = u → lk ρ 2 = .ptr b2 0 → lk ρ 3 = vl → lk ρ 4 = vt' → lk ρ 5 = w → TwoO (Ab.upd g b6 ⟨o.cells, 0⟩) vl l vt' (to ++ [vv]) H' → Q (.exit 1) ρ H')
  (hq2 : vv < 0 → ∀ ρ vl' vt' x H', lk ρ 1 = u → lk ρ 2 = .ptr b2 0 → lk ρ 3 = vl' → lk ρ 4 = vt' → lk ρ 5 = w → TwoO (Ab.upd g b6 x) vl' (l ++ [if vv = -2 then IOp.num 0 else o]) vt' (to ++ [(l.length : Int)]) H' → Q .normal ρ H') :
  wpc Tryz.prog G Tryz.f40.ntmps C40_30 Q [(1, u), (2, .ptr b2 0), (3, vl), (4, vt), (5, w), (6, .ptr b6 0), (7, .int .i64 vv)] H := by
 by_cases c : vv ≥ 0
 ·simp only [push_cast, simprocAttr, c]
  refine hr.appT vv ht fun v' h' hr' => ?_
  simp only [push_cast, simprocAttr, hr'.one.1]
  exact hq1 c _ v' _ rfl rfl rfl rfl rfl hr'
 ·have hb6 := hr.get (upd_same _ _ _)
  have hal := hr.one.2.2
  by_cases c2 : vv = -2
  ·have hq3 := hq2 (by omega)
   rw [if_pos c2] at hq3
   subst c2
   have hr2 := hr.upd (b := b6) (x := ⟨(IOp.num 0).cells, 0⟩) (.inr ⟨_, upd_same _ _ _⟩)
   rw [upd_upd] at hr2
   have hz : [AV.int .i64 2, .int .i64 0, .int .i64 0, .int .u32 0, .int .i64 0, .int .i64 0] = (IOp.num 0).cells := rfl
   simp only [push_cast, simprocAttr, hb6, hal, hz]
   refine hr2.appT l.length ht fun v' h' hr3 => ?_
   have hb3 := hr3.get (upd_same _ _ _)
   simp only [push_cast, simprocAttr, hr3.one.1, hb3]
   refine hr3.appL _ hl fun v4 h4 hr4 => ?_
   simp only [push_cast, simprocAttr, hr4.one.2.1]
   exact hq3 _ v4 v' _ _ rfl rfl rfl rfl rfl hr4
  ·have hq3 := hq2 (by omega)
   rw [if_neg c2] at hq3
   simp only [push_cast, simprocAttr, hb6, hal, c, c2]
   refine hr.appT l.length ht fun v' h' hr3 => ?_
   have hb3 := hr3.get (upd_same _ _ _)
   simp only [push_cast, simprocAttr, hr3.one.1, hb3]
   refine hr3.appL _ hl fun v4 h4 hr4 => ?_
   simp only [push_cast, simprocAttr, hr4.one.2.1]
   exact hq3 _ v4 v' _ _ rfl rfl rfl rfl rfl hr4
end Go.Ab
end
section
namespace Go.Ab
open Go.Proofs
variable {G : Glo} {h : Heap}
theorem foldF_stands {l : List IOp} {o : IOp} (h3 : o.code = 3) (hnc : (isCN l o.a && isCN l o.b) = false) : (0 ≤ standsN l (plF o.imm.toNat) o.a o.b → (foldF l o).1 = standsN l (plF o.imm.toNat) o.a o.b) ∧ (standsN l (plF o.imm.toNat) o.a o.b < 0 → (foldF l o).1 < 0 ∧ (foldF l o).2 = if standsN l (plF o.imm.toNat) o.a o.b = -2 then IOp.num 0 else o) := by
 have hF : foldF l o = if 0 ≤ stdN l (plF o.imm.toNat) o.a o.b then (stdN l (plF o.imm.toNat) o.a o.b, o) else if nothN l (plF o.imm.toNat) o.a o.b then (-1, IOp.num 0) else (-1, o) := by
  unfold foldF
  rw [if_neg (fun h => h h3), hnc]
  rfl
 rw [hF]
 unfold standsN
 by_cases c : 0 ≤ stdN l (plF o.imm.toNat) o.a o.b
 ·rw [if_pos c, if_pos c]
  exact ⟨fun _ => rfl, fun h => by omega⟩
 ·rw [if_neg c, if_neg c]
  by_cases c2 : nothN l (plF o.imm.toNat) o.a o.b = true
  ·rw [if_pos c2, if_pos c2]
   exact ⟨fun h => by omega, fun _ => ⟨by simp, by simp⟩⟩
  ·rw [if_neg c2, if_neg c2]
   exact ⟨fun h => by omega, fun _ => ⟨by simp, by simp⟩⟩
theorem rfold_mid {g H : Heap} {vl vt : AV} {l : List IOp} {to : List Int} {b6 b2 : Nat} {o : IOp} {u w : AV} {Q : Exit → Env → Heap → Prop} (hr : TwoO (Ab.upd g b6 ⟨o.cells, 0⟩) vl l vt to H) (hl : l.length + 1 ≤ 1000000000000) (ht : to.length + 1 ≤ 1000000000000)
  (hk : o.code = 3 → reckonsN o.imm.toNat = true ∧ (0 ≤ o.a ∧ o.a < l.length) ∧ 0 ≤ o.b ∧ o.b < l.length)
  (hq1 : 0 ≤ (foldF l o).1 → ∀ ρ vt' x H', lk ρ 1 = u → lk ρ 2 = .ptr b2 0 → lk ρ 3 = vl → lk ρ 4 = vt' → lk ρ 5 = w → TwoO (Ab.upd g b6 x) vl l vt' (to ++ [(foldF l o).1]) H' → Q (.exit 1) ρ H')
  (hq2 : (foldF l o).1 < 0 → ∀ ρ vl' vt' x H', lk ρ 1 = u → lk ρ 2 = .ptr b2 0 → lk ρ 3 = vl' → lk ρ 4 = vt' → lk ρ 5 = w → TwoO (Ab.upd g b6 x) vl' (l ++ [(foldF l o).2]) vt' (to ++ [(l.length : Int)]) H' → Q .normal ρ H') :
  wpc Tryz.prog G Tryz.f40.ntmps C40_31 Q [(1, u), (2, .ptr b2 0), (3, vl), (4, vt), (5, w), (6, .ptr b6 0), (7, .int .i64 (-1))] H := by
 have T := fun (o' : IOp) (vv : Int) (H' : Heap) hr' a1 a2 => rfold_tail (G := G) (b2 := b2) (u := u) (w := w) (o := o') (vv := vv) (H := H') (g := g) (vl := vl) (l := l) (vt := vt) (to := to) (b6 := b6) (Q := Q) hr' hl ht a1 a2
 have hb6 := hr.get (upd_same _ _ _)
 have aL := hr.argL
 show wpc _ _ _ (.seq [1, 2, 3, 4, 5, 6, 7] C40_16 C40_30) _ _ _
 generalize C40_30 = Y at T ⊢
 by_cases c3 : o.code = 3
 ·obtain ⟨k1, ⟨a0, a1⟩, b0, b1⟩ := hk c3
  have qa : o.a.toNat < l.length := by omega
  have qb : o.b.toNat < l.length := by omega
  obtain ⟨bl, pre, cap, sp, hv, e2, e3⟩ := hr.lieL (by omega)
  have ga := ops_0 l o.a.toNat
  have gb := ops_0 l o.b.toNat
  have fa := ops_3 l o.a.toNat
  have fb := ops_3 l o.b.toNat
  rw [if_pos qa] at ga fa
  rw [if_pos qb] at gb fb
  have pg : ∀ i : Nat, (pre ++ l.flatMap IOp.cells)[pre.length + i]? = (l.flatMap IOp.cells)[i]? := fun i => by rw [List.getElem?_append_right (by omega), Nat.add_sub_cancel_left]
  by_cases cA : isCN l o.a = true
  ·by_cases cB : isCN l o.b = true
   ·have hF : foldF l o = (-1, IOp.num (reckN o.imm.toNat (l.getD o.a.toNat IOp.zero).imm (l.getD o.b.toNat IOp.zero).imm)) := by
     unfold foldF; rw [if_neg (by simpa using c3), cA, cB]; rfl
    rw [hF] at hq1 hq2
    have cA' : (l.getD o.a.toNat IOp.zero).code = 2 := of_decide_eq_true cA
    have cB' : (l.getD o.b.toNat IOp.zero).code = 2 := of_decide_eq_true cB
    subst hv
    have kR := fun h : Heap => Reckon_spec (G := G) (h := h) o.imm.toNat (l.getD o.a.toNat IOp.zero).imm (l.getD o.b.toNat IOp.zero).imm k1
    have hr2 := hr.upd (b := b6) (x := ⟨(IOp.num (reckN o.imm.toNat (l.getD o.a.toNat IOp.zero).imm (l.getD o.b.toNat IOp.zero).imm)).cells, 0⟩) (.inr ⟨_, upd_same _ _ _⟩)
    rw [upd_upd] at hr2
    simp only [push_cast, simprocAttr, hb6, e2, c3, a0, a1, b0, b1, cA', cB', pg, ga, gb, fa, fb, Nat.add_assoc]
    refine (kR _).to ?_
    simp only [push_cast, simprocAttr, hb6]
    refine T _ (-1) _ hr2 (fun h => by omega) fun _ ρ vl' vt' x H' l1 l2 l3 l4 l5 hr' => ?_
    exact hq2 (by simp) ρ vl' vt' x H' l1 l2 l3 l4 l5 hr'
   ·have hnc : (isCN l o.a && isCN l o.b) = false := by simp [cB]
    obtain ⟨f1, f2⟩ := foldF_stands c3 hnc
    have kS := borrow_is (rstands_spec (G := G) (h := noH) (plF o.imm.toNat) a0 a1 b0 b1 hnc) (h := H) (.cons aL (.cons (.same _ _) (.cons (.same _ _) (.cons (.same _ _) .nil)))) rfl
    have kP := rplain28_spec (G := G) (h := H) o.imm.toNat
    have cA' : (l.getD o.a.toNat IOp.zero).code = 2 := of_decide_eq_true cA
    have cB' : ¬ (l.getD o.b.toNat IOp.zero).code = 2 := fun e => cB (decide_eq_true e)
    subst hv
    simp only [push_cast, simprocAttr, hb6, e2, c3, a0, a1, b0, b1, cA', cB', pg, ga, gb, fa, fb, Nat.add_assoc]
    refine kP.to ?_
    simp only [push_cast, simprocAttr, hb6]
    refine kS.to ?_
    simp only [push_cast, simprocAttr, hb6]
    refine T _ _ _ hr (fun h ρ vt' H' l1 l2 l3 l4 l5 hr' => ?_) fun h ρ vl' vt' x H' l1 l2 l3 l4 l5 hr' => ?_
    ·rw [← f1 h] at hr'
     exact hq1 (by rw [f1 h]; exact h) ρ vt' _ H' l1 l2 l3 l4 l5 hr'
    ·rw [← (f2 h).2] at hr'
     exact hq2 (f2 h).1 ρ vl' vt' x H' l1 l2 l3 l4 l5 hr'
  ·have hnc : (isCN l o.a && isCN l o.b) = false := by simp [cA]
   obtain ⟨f1, f2⟩ := foldF_stands c3 hnc
   have kS := borrow_is (rstands_spec (G := G) (h := noH) (plF o.imm.toNat) a0 a1 b0 b1 hnc) (h := H) (.cons aL (.cons (.same _ _) (.cons (.same _ _) (.cons (.same _ _) .nil)))) rfl
   have kP := rplain28_spec (G := G) (h := H) o.imm.toNat
   have cA' : ¬ (l.getD o.a.toNat IOp.zero).code = 2 := fun e => cA (decide_eq_true e)
   subst hv
   simp only [push_cast, simprocAttr, hb6, e2, c3, a0, a1, b0, b1, cA', pg, ga, gb, fa, fb, Nat.add_assoc]
   refine kP.to ?_
   simp only [push_cast, simprocAttr, hb6]
   refine kS.to ?_
   simp only [push_cast, simprocAttr, hb6]
   refine T _ _ _ hr (fun h ρ vt' H' l1 l2 l3 l4 l5 hr' => ?_) fun h ρ vl' vt' x H' l1 l2 l3 l4 l5 hr' => ?_
   ·rw [← f1 h] at hr'
    exact hq1 (by rw [f1 h]; exact h) ρ vt' _ H' l1 l2 l3 l4 l5 hr'
   ·rw [← (f2 h).2] at hr'
    exact hq2 (f2 h).1 ρ vl' vt' x H' l1 l2 l3 l4 l5 hr'
 ·have hF : foldF l o = (-1, o) := by unfold foldF; rw [if_pos c3]
  rw [hF] at hq1 hq2
  simp only [push_cast, simprocAttr, hb6, c3]
  refine T _ (-1) _ hr (fun h => by omega) fun _ ρ vl' vt' x H' l1 l2 l3 l4 l5 hr' => ?_
  exact hq2 (by simp) ρ vl' vt' x H' l1 l2 l3 l4 l5 hr'
theorem rfoldDo_spec (b : IBk) (hw : b.wf) (hc : b.check = 0) : Spec Tryz.prog G 40 [.agg b.cells] h (Is (.agg (b.ps foldF).cells) h) := by
 obtain ⟨hops, hexs⟩ := right_parts hc
 obtain ⟨hs1, hs2, hs3⟩ := hw.hs
 refine Spec.is C40ok rfl ?_
 simp only [push_cast, simprocAttr]
 intro b2 hb2 b8 hb8 b9 hb9
 have i1 : Own 6 (Ab.upd h b2 ⟨[.nils, .nils, .nils, .int .i64 0], 0⟩) (.sl b8 0 0 0) [] 0 _ := own_new hb8
 have i2 : Own 1 _ (.sl b9 0 0 0) [] 0 _ := own_new hb9
 refine lpc.rel [1, 2, 3, 4, 5] (fun m ρ h' => ∃ (k : Nat) (vl vt : AV), m = b.ops.length - k ∧ k ≤ b.ops.length ∧ TwoO (Ab.upd h b2 ⟨[.nils, .nils, .nils, .int .i64 0], 0⟩) vl (psN foldF (b.ops.take k)).l vt (psN foldF (b.ops.take k)).to h' ∧
  ρ = [(1, .cp b.cells 0), (2, .ptr b2 0), (3, vl), (4, vt), (5, .int .i64 (k : Int))]) ⟨_, 0, _, _, rfl, by omega, ⟨_, i1, i2⟩, rfl⟩ ?_
 rintro m _ h2 ⟨k, vl, vt, rfl, hk, hr, rfl⟩
 by_cases hk2 : k < b.ops.length
 ·have hst := psstep_eq foldF (psN foldF (b.ops.take k)) (b.ops.getD k IOp.zero)
  rw [← psN_succ foldF b.ops k hk2] at hst
  have htl : (psN foldF (b.ops.take k)).to.length = k := by rw [psN_to, List.length_take]; omega
  have hll := psN_l foldF (b.ops.take k)
  rw [List.length_take] at hll
  have hok := renOK_of (hops k hk2) htl
  have h6 := code_le6 (hops k hk2)
  have HK := fun e3 => ps_hk fold_ok hc hk2 e3
  generalize psN foldF (b.ops.take k) = f at *
  generalize hO : b.ops.getD k IOp.zero = o at *
  have kN := borrow_agg (rnames_spec (G := G) (h := noH) f.to o hok h6) (h := h2) (.cons (.same _ _) (.cons hr.argT .nil)) rfl
  have M := fun b6 (hb6 : h2 b6 = none) Q (H : Heap) (hH : H = Ab.upd h2 b6 ⟨(ren f.to o).cells, 0⟩) hq1 hq2 => rfold_mid (G := G) (b2 := b2) (b6 := b6) (u := .cp b.cells 0) (w := .int .i64 (k : Int)) (Q := Q) (hr.upd (x := ⟨(ren f.to o).cells, 0⟩) (.inl hb6)) (by omega) (by omega) (fun e3 => by rw [(ren_xy _ _).2.2]; exact HK (by rw [ren_code] at e3; exact e3)) hq1 hq2
  have g2 : ∀ b6, h2 b6 = none → Ab.upd h b2 ⟨[.nils, .nils, .nils, .int .i64 0], 0⟩ b6 = none := fun b6 h => hr.none h
  show wpc _ _ _ (.seq [1, 2, 3, 4, 5] C40_6 (.seq [1, 2, 3, 4, 5] (.block 1 (.seq [1, 2, 3, 4, 5, 6] C40_7 (.seq [1, 2, 3, 4, 5, 6, 7] C40_8 C40_31))) C40_35)) _ _ _
  generalize C40_31 = Y at M ⊢
  simp only [push_cast, simprocAttr, hk2, hO]
  refine kN.to ?_
  simp only [push_cast, simprocAttr]
  intro b6 hb6
  refine M b6 hb6 _ _ rfl (fun h0 ρ vt' x H' l1 l2 l3 l4 l5 hr' => ?_) fun h0 ρ vl' vt' x H' l1 l2 l3 l4 l5 hr' => ?_
  ·obtain ⟨H1, s1, hr2⟩ := hr'.drop (g2 b6 hb6)
   simp (disch := omega) only [push_cast, simprocAttr, wrap_i64, toNat_ofInt64, Nat.min_eq_left, Int.toNat_of_nonneg, l1, l2, l3, l4, l5]
   exact ⟨_, H1, by omega, s1, k + 1, vl, vt', rfl, by omega, by rw [hst, if_pos h0, if_pos h0]; exact hr2, rfl⟩
  ·obtain ⟨H1, s1, hr2⟩ := hr'.drop (g2 b6 hb6)
   simp (disch := omega) only [push_cast, simprocAttr, wrap_i64, toNat_ofInt64, Nat.min_eq_left, Int.toNat_of_nonneg, l1, l2, l3, l4, l5]
   exact ⟨_, H1, by omega, s1, k + 1, vl', vt', rfl, by omega, by rw [hst, if_neg (by omega), if_neg (by omega)]; exact hr2, rfl⟩
 ·obtain rfl : k = b.ops.length := by omega
  rw [List.take_length] at hr
  have htl := psN_to foldF b.ops
  have hps : b.ps foldF = ⟨b.pcs, (psN foldF b.ops).l, b.exits.map (renE (psN foldF b.ops).to), b.last⟩ := rfl
  rw [hps]
  generalize psN foldF b.ops = f at *
  have kE := fun h : Heap => rExits_spec (G := G) (h := h) b.exits f.to (fun k hk => exOK_of (hexs k hk) htl) hs2 (fun k hk => getD_map (n := k) hs3)
  simp only [push_cast, simprocAttr, hk2]
  refine hr.freeze fun h1 o1 => ?_
  simp only [push_cast, simprocAttr]
  refine wkQ.own o1 ?_
  simp only [push_cast, simprocAttr]
  refine (kE _).to ?_
  simp only [push_cast, simprocAttr]
  exact ⟨rfl, sub_upd hb2 (.refl _)⟩
end Go.Ab
end
section
namespace Go.Ab
open Go.Proofs
variable {G : Glo} {h : Heap}
theorem ralike_spec (a b : IOp) : Spec Tryz.prog G 116 [.agg a.cells, .agg b.cells] h (Is (.bool (alikeN a b)) h) := by
  have kA := rplain28_spec (G := G) (h := h) a.imm.toNat
  have kB := rplain28_spec (G := G) (h := h) b.imm.toNat
  have kT := rturns_spec (G := G) (h := h) (plF (a.imm.toNat : Int))
  have hI : ((a.imm.toNat : Int) == (b.imm.toNat : Int)) = decide (a.imm = b.imm) := by
    rw [Bool.eq_iff_iff, beq_iff_eq, decide_eq_true_eq]
    exact ⟨fun e => BitVec.eq_of_toNat_eq (by omega), fun e => by rw [e]⟩
  unfold alikeN
  by_cases c0 : a.code = b.code
  · rw [if_neg (by simpa using c0)]
    have c0' : (a.code != b.code) = false := by simpa using c0
    by_cases c12 : a.code = 1 ∨ a.code = 2
    · rw [if_pos c12]
      refine Spec.is C116ok rfl ?_
      rcases c12 with c | c
      · have c' : b.code = 1 := by omega
        simp only [push_cast, simprocAttr, c, c', hI]
      · have c' : b.code = 2 := by omega
        simp only [push_cast, simprocAttr, c, c', hI]
    · rw [if_neg c12]
      have c2 : ¬ a.code ≤ 2 ∨ a.code < 1 := by omega
      by_cases c4 : a.code = 4
      · rw [if_pos c4]
        have c4' : b.code = 4 := by omega
        refine Spec.is C116ok rfl ?_
        by_cases e : a.imm = b.imm
        · simp only [push_cast, simprocAttr, c4, c4', hI, e, decide_true, Bool.true_and]
          try rfl
        · have e' : decide (a.imm = b.imm) = false := decide_eq_false e
          simp only [push_cast, simprocAttr, c4, c4', hI, e']
          try simp
      · rw [if_neg c4]
        by_cases c3 : a.code = 3
        · rw [if_pos c3]
          have c3' : b.code = 3 := by omega
          generalize plF (a.imm.toNat : Int) = pa at *
          generalize plF (b.imm.toNat : Int) = pb at *
          generalize turN pa = tu at *
          refine Spec.is C116ok rfl ?_
          simp only [push_cast, simprocAttr, c3, c3']
          refine kA.to ?_
          simp only [push_cast, simprocAttr, c3, c3']
          refine kB.to ?_
          by_cases e5 : pa = pb
          · have e5' : (pa != pb) = false := by simpa using e5
            rw [decide_eq_true e5, Bool.true_and]
            have e1 : (a.a == b.a) = decide (a.a = b.a) := rfl
            have e2 : (a.b == b.b) = decide (a.b = b.b) := rfl
            have e3 : (a.a == b.b) = decide (a.a = b.b) := rfl
            have e4 : (a.b == b.a) = decide (a.b = b.a) := rfl
            generalize decide (a.a = b.a) = x1 at *
            generalize decide (a.b = b.b) = x2 at *
            generalize decide (a.a = b.b) = x3 at *
            generalize decide (a.b = b.a) = x4 at *
            cases x1 <;> cases x2 <;>
            · simp only [push_cast, simprocAttr, e5', e1, e2]
              try first
                | rfl
                | (refine kT.to ?_
                   cases tu with
                   | false => simp only [push_cast, simprocAttr]; try rfl
                   | true => cases x3 with
                     | false => simp only [push_cast, simprocAttr, e3]; try rfl
                     | true => simp only [push_cast, simprocAttr, e3, e4]; try rfl)
          · have e5' : (pa != pb) = true := by simpa using e5
            rw [decide_eq_false e5, Bool.false_and]
            simp only [push_cast, simprocAttr, e5']
        · rw [if_neg c3]
          refine Spec.is C116ok rfl ?_
          by_cases c1 : a.code < 1
          · simp only [push_cast, simprocAttr, c0', c1]
          · have c5 : a.code > 4 := by omega
            simp only [push_cast, simprocAttr, c0', c1, c5]
  · rw [if_pos (by simpa using c0)]
    have c0' : (a.code != b.code) = true := by simpa using c0
    refine Spec.is C116ok rfl ?_
    simp only [push_cast, simprocAttr, c0']
theorem rfind_spec (l : List IOp) (o : IOp) (hl : l.length ≤ 1000000000000) : Spec Tryz.prog G 80 [ops l, .agg o.cells] h (Is (.int .i64 (findN l o)) h) := by
 have hN : findN l o = findT l o l.length := rfl
 have hlo : ∀ n, -1 ≤ findT l o n := fun n => by
  induction n with
  | zero => simp [findT]
  | succ n ih => rw [findT]; (repeat' split) <;> omega
 rw [hN]
 refine Spec.is C80ok rfl ?_
 simp only [push_cast, simprocAttr]
 refine lpc.rel [0, 3, 5, 6] (fun m ρ h' => ∃ k : Nat, m = l.length - k ∧ k ≤ l.length ∧ h = h' ∧ ρ = [(0, ops l), (3, .cp o.cells 0), (5, .int .i64 (findT l o k)), (6, .int .i64 (k : Int))]) ⟨_, 0, rfl, by omega, rfl, rfl⟩ ?_
 rintro m _ _ ⟨k, rfl, hk, rfl, rfl⟩
 by_cases hk2 : k < l.length
 ·have kA := ralike_spec (G := G) (h := h) (l.getD k IOp.zero) o
  have hs : findT l o (k + 1) = if (l.getD k IOp.zero).code = 5 ∧ o.code = 4 then -1 else if findT l o k < 0 ∧ alikeN (l.getD k IOp.zero) o = true then (k : Int) else findT l o k := rfl
  have hlk := hlo k
  have g0 := ops_0 l k
  rw [if_pos hk2] at g0
  generalize alikeN (l.getD k IOp.zero) o = al at *
  generalize findT l o k = F at *
  by_cases c5 : (l.getD k IOp.zero).code = 5 ∧ o.code = 4
  ·rw [if_pos c5] at hs
   by_cases c : F < 0
   ·cases al <;>
    ·simp only [push_cast, simprocAttr, hk2, c]
     refine kA.to ?_
     simp (disch := omega) only [push_cast, simprocAttr, wrap_i64, toNat_ofInt64, Nat.min_eq_left, Int.toNat_of_nonneg, hk2, c5.1, c5.2, g0]
     (try intro _)
     exact ⟨_, _, by omega, .refl _, k + 1, rfl, by omega, rfl, by rw [hs]; rfl⟩
   ·simp (disch := omega) only [push_cast, simprocAttr, wrap_i64, toNat_ofInt64, Nat.min_eq_left, Int.toNat_of_nonneg, hk2, c, c5.1, c5.2, g0]
    exact ⟨_, _, by omega, .refl _, k + 1, rfl, by omega, rfl, by rw [hs]; rfl⟩
  ·rw [if_neg c5] at hs
   have c5' : ((l.getD k IOp.zero).code = 5 → ¬ o.code = 4) := fun a b => c5 ⟨a, b⟩
   by_cases c : F < 0
   ·cases al with
    | false =>
     rw [if_neg (by simp)] at hs
     by_cases q : (l.getD k IOp.zero).code = 5
     ·have q4 := c5' q
      simp only [push_cast, simprocAttr, hk2, c]
      refine kA.to ?_
      simp (disch := omega) only [push_cast, simprocAttr, wrap_i64, toNat_ofInt64, Nat.min_eq_left, Int.toNat_of_nonneg, hk2, q, q4, g0]
      (try intro _)
      exact ⟨_, _, by omega, .refl _, k + 1, rfl, by omega, rfl, by rw [hs]; rfl⟩
     ·simp only [push_cast, simprocAttr, hk2, c]
      refine kA.to ?_
      simp (disch := omega) only [push_cast, simprocAttr, wrap_i64, toNat_ofInt64, Nat.min_eq_left, Int.toNat_of_nonneg, hk2, q, g0]
      (try intro _)
      exact ⟨_, _, by omega, .refl _, k + 1, rfl, by omega, rfl, by rw [hs]; rfl⟩
    | true =>
     rw [if_pos ⟨c, rfl⟩] at hs
     by_cases q : (l.getD k IOp.zero).code = 5
     ·have q4 := c5' q
      simp only [push_cast, simprocAttr, hk2, c]
      refine kA.to ?_
      simp (disch := omega) only [push_cast, simprocAttr, wrap_i64, toNat_ofInt64, Nat.min_eq_left, Int.toNat_of_nonneg, hk2, q, q4, g0]
      (try intro _)
      exact ⟨_, _, by omega, .refl _, k + 1, rfl, by omega, rfl, by rw [hs]; rfl⟩
     ·simp only [push_cast, simprocAttr, hk2, c]
      refine kA.to ?_
      simp (disch := omega) only [push_cast, simprocAttr, wrap_i64, toNat_ofInt64, Nat.min_eq_left, Int.toNat_of_nonneg, hk2, q, g0]
      (try intro _)
      exact ⟨_, _, by omega, .refl _, k + 1, rfl, by omega, rfl, by rw [hs]; rfl⟩
   ·rw [if_neg (fun h => c h.1)] at hs
    by_cases q : (l.getD k IOp.zero).code = 5
    ·have q4 := c5' q
     simp (disch := omega) only [push_cast, simprocAttr, wrap_i64, toNat_ofInt64, Nat.min_eq_left, Int.toNat_of_nonneg, hk2, c, q, q4, g0]
     (try intro _)
     exact ⟨_, _, by omega, .refl _, k + 1, rfl, by omega, rfl, by rw [hs]; rfl⟩
    ·simp (disch := omega) only [push_cast, simprocAttr, wrap_i64, toNat_ofInt64, Nat.min_eq_left, Int.toNat_of_nonneg, hk2, c, q, g0]
     (try intro _)
     exact ⟨_, _, by omega, .refl _, k + 1, rfl, by omega, rfl, by rw [hs]; rfl⟩
 ·obtain rfl : k = l.length := by omega
  simp only [push_cast, simprocAttr, hk2]
end Go.Ab
end
section
namespace Go.Ab
open Go.Proofs
variable {G : Glo} {h : Heap}
theorem rnum_mid {g H : Heap} {vl vt : AV} {l : List IOp} {to : List Int} {b6 b2 : Nat} {o : IOp} {u w : AV} {Q : Exit → Env → Heap → Prop} (hr : TwoO (Ab.upd g b6 ⟨o.cells, 0⟩) vl l vt to H) (hl : l.length + 1 ≤ 1000000000000) (ht : to.length + 1 ≤ 1000000000000)
  (hq1 : 0 ≤ (numF l o).1 → ∀ ρ vt' x H', lk ρ 1 = u → lk ρ 2 = .ptr b2 0 → lk ρ 3 = vl → lk ρ 4 = vt' → lk ρ 5 = w → TwoO (Ab.upd g b6 x) vl l vt' (to ++ [(numF l o).1]) H' → Q (.exit 1) ρ H')
  (hq2 : (numF l o).1 < 0 → ∀ ρ vl' vt' x H', lk ρ 1 = u → lk ρ 2 = .ptr b2 0 → lk ρ 3 = vl' → lk ρ 4 = vt' → lk ρ 5 = w → TwoO (Ab.upd g b6 x) vl' (l ++ [(numF l o).2]) vt' (to ++ [(l.length : Int)]) H' → Q .normal ρ H') :
  wpc Tryz.prog G Tryz.f41.ntmps C41_26 Q [(1, u), (2, .ptr b2 0), (3, vl), (4, vt), (5, w), (6, .ptr b6 0)] H := by
 have hb6 := hr.get (upd_same _ _ _)
 have kF := borrow_is (rfind_spec (G := G) (h := noH) l o (by omega)) (h := H) (.cons hr.argL (.cons (.same _ _) .nil)) rfl
 have hF : numF l o = (findN l o, o) := rfl
 rw [hF] at hq1 hq2
 generalize findN l o = vv at *
 simp only [push_cast, simprocAttr, hb6]
 refine kF.to ?_
 by_cases c : vv ≥ 0
 ·simp only [push_cast, simprocAttr, c]
  refine hr.appT vv ht fun v' h' hr' => ?_
  simp only [push_cast, simprocAttr, hr'.one.1]
  exact hq1 c _ v' _ _ rfl rfl rfl rfl rfl hr'
 ·have hal := hr.one.2.2
  simp only [push_cast, simprocAttr, hb6, hal, c]
  refine hr.appT l.length ht fun v' h' hr3 => ?_
  have hb3 := hr3.get (upd_same _ _ _)
  simp only [push_cast, simprocAttr, hr3.one.1, hb3]
  refine hr3.appL _ hl fun v4 h4 hr4 => ?_
  simp only [push_cast, simprocAttr, hr4.one.2.1]
  exact hq2 (by simp only; omega) _ v4 v' _ _ rfl rfl rfl rfl rfl hr4
theorem rnum_head {g h2 : Heap} {vl vt : AV} {l : List IOp} {to : List Int} {b6 b2 : Nat} {o : IOp} {u w : AV} {Q : Exit → Env → Heap → Prop} (hr : TwoO g vl l vt to h2) (hb6 : h2 b6 = none) (hR : renOK to o) (h6 : o.code ≤ 6)
  (T : ∀ H, H = Ab.upd h2 b6 ⟨(ren to o).cells, 0⟩ → wpc Tryz.prog G Tryz.f41.ntmps C41_26 Q [(1, u), (2, .ptr b2 0), (3, vl), (4, vt), (5, w), (6, .ptr b6 0)] H) :
  wpc Tryz.prog G Tryz.f41.ntmps C41_28 Q [(1, u), (2, .ptr b2 0), (3, vl), (4, vt), (5, w), (6, .ptr b6 0)] (Ab.upd h2 b6 ⟨o.cells, 0⟩) := by
 obtain ⟨hR1, hR2⟩ := hR
 show wpc _ _ _ (.seq [1, 2, 3, 4, 5, 6] C41_11 (.seq [1, 2, 3, 4, 5, 6] C41_15 C41_26)) _ _ _
 generalize C41_26 = Y at T ⊢
 by_cases g3 : o.code = 3 ∨ o.code = 5 ∨ o.code = 6
 ·obtain ⟨⟨q1, q2⟩, q3, q4⟩ := hR1 g3
  obtain ⟨bt, pre, cap, sp, rfl, e2, e3⟩ := hr.lieT (by omega)
  have f5 : ¬ bt = b6 := fun e => by rw [← e, e2] at hb6; cases hb6
  have q5 : o.a.toNat < to.length := by omega
  have q6 : o.b.toNat < to.length := by omega
  rcases g3 with g | g | g <;>
  ·simp (disch := omega) only [push_cast, simprocAttr, wrap_i64, toNat_ofInt64, Nat.min_eq_left, Int.toNat_of_nonneg, upd_at, f5, e2, q1, q2, q3, q4, q5, q6, g]
   rw [show ren to o = ⟨o.code, to.getD o.a.toNat 0, to.getD o.b.toNat 0, o.imm, o.x, o.y⟩ from by unfold ren; rw [if_pos (by omega)], g] at T
   exact T _ rfl
 ·by_cases g4 : o.code = 4
  ·obtain ⟨q1, q2⟩ := hR2 g4
   obtain ⟨bt, pre, cap, sp, rfl, e2, e3⟩ := hr.lieT (by omega)
   have f5 : ¬ bt = b6 := fun e => by rw [← e, e2] at hb6; cases hb6
   have q5 : o.a.toNat < to.length := by omega
   simp (disch := omega) only [push_cast, simprocAttr, wrap_i64, toNat_ofInt64, Nat.min_eq_left, Int.toNat_of_nonneg, upd_at, f5, e2, q1, q2, q5, g4]
   rw [show ren to o = ⟨o.code, to.getD o.a.toNat 0, o.b, o.imm, o.x, o.y⟩ from by unfold ren; rw [if_neg g3, if_pos g4], g4] at T
   exact T _ rfl
  ·have g5 : ¬ o.code = 3 := by omega
   have g6 : ¬ o.code ≥ 3 := by omega
   have g7 : ¬ o.code ≥ 5 := by omega
   simp (disch := omega) only [push_cast, simprocAttr, wrap_i64, toNat_ofInt64, Nat.min_eq_left, Int.toNat_of_nonneg, g4, g5, g6, g7]
   rw [show ren to o = o from by unfold ren; rw [if_neg g3, if_neg g4]] at T
   exact T _ rfl
theorem rnum_spec (b : IBk) (hw : b.wf) (hc : b.check = 0) : Spec Tryz.prog G 41 [.agg b.cells] h (Is (.agg (b.ps numF).cells) h) := by
 obtain ⟨hops, hexs⟩ := right_parts hc
 obtain ⟨hs1, hs2, hs3⟩ := hw.hs
 refine Spec.is C41ok rfl ?_
 simp only [push_cast, simprocAttr]
 intro b2 hb2 b8 hb8 b9 hb9
 have i1 : Own 6 (Ab.upd h b2 ⟨[.nils, .nils, .nils, .int .i64 0], 0⟩) (.sl b8 0 0 0) [] 0 _ := own_new hb8
 have i2 : Own 1 _ (.sl b9 0 0 0) [] 0 _ := own_new hb9
 refine lpc.rel [1, 2, 3, 4, 5] (fun m ρ h' => ∃ (k : Nat) (vl vt : AV), m = b.ops.length - k ∧ k ≤ b.ops.length ∧ TwoO (Ab.upd h b2 ⟨[.nils, .nils, .nils, .int .i64 0], 0⟩) vl (psN numF (b.ops.take k)).l vt (psN numF (b.ops.take k)).to h' ∧
  ρ = [(1, .cp b.cells 0), (2, .ptr b2 0), (3, vl), (4, vt), (5, .int .i64 (k : Int))]) ⟨_, 0, _, _, rfl, by omega, ⟨_, i1, i2⟩, rfl⟩ ?_
 rintro m _ h2 ⟨k, vl, vt, rfl, hk, hr, rfl⟩
 by_cases hk2 : k < b.ops.length
 ·have hst := psstep_eq numF (psN numF (b.ops.take k)) (b.ops.getD k IOp.zero)
  rw [← psN_succ numF b.ops k hk2] at hst
  have htl : (psN numF (b.ops.take k)).to.length = k := by rw [psN_to, List.length_take]; omega
  have hll := psN_l numF (b.ops.take k)
  rw [List.length_take] at hll
  have hok := renOK_of (hops k hk2) htl
  have h6 := code_le6 (hops k hk2)
  generalize psN numF (b.ops.take k) = f at *
  generalize hO : b.ops.getD k IOp.zero = o at *
  have M := fun b6 (hb6 : h2 b6 = none) Q hq1 hq2 => rnum_head (G := G) (b2 := b2) (b6 := b6) (u := .cp b.cells 0) (w := .int .i64 (k : Int)) (Q := Q) hr hb6 hok h6 fun H hH => by
   subst hH
   exact rnum_mid (hr.upd (x := ⟨(ren f.to o).cells, 0⟩) (.inl hb6)) (by omega) (by omega) hq1 hq2
  have g2 : ∀ b6, h2 b6 = none → Ab.upd h b2 ⟨[.nils, .nils, .nils, .int .i64 0], 0⟩ b6 = none := fun b6 h => hr.none h
  show wpc _ _ _ (.seq [1, 2, 3, 4, 5] C41_6 (.seq [1, 2, 3, 4, 5] (.block 1 (.seq [1, 2, 3, 4, 5, 6] C41_7 C41_28)) C41_31)) _ _ _
  generalize C41_28 = Y at M ⊢
  simp only [push_cast, simprocAttr, hk2, hO]
  intro b6 hb6
  refine M b6 hb6 _ (fun h0 ρ vt' x H' l1 l2 l3 l4 l5 hr' => ?_) fun h0 ρ vl' vt' x H' l1 l2 l3 l4 l5 hr' => ?_
  ·obtain ⟨H1, s1, hr2⟩ := hr'.drop (g2 b6 hb6)
   simp (disch := omega) only [push_cast, simprocAttr, wrap_i64, toNat_ofInt64, Nat.min_eq_left, Int.toNat_of_nonneg, l1, l2, l3, l4, l5]
   exact ⟨_, H1, by omega, s1, k + 1, vl, vt', rfl, by omega, by rw [hst, if_pos h0, if_pos h0]; exact hr2, rfl⟩
  ·obtain ⟨H1, s1, hr2⟩ := hr'.drop (g2 b6 hb6)
   simp (disch := omega) only [push_cast, simprocAttr, wrap_i64, toNat_ofInt64, Nat.min_eq_left, Int.toNat_of_nonneg, l1, l2, l3, l4, l5]
   exact ⟨_, H1, by omega, s1, k + 1, vl', vt', rfl, by omega, by rw [hst, if_neg (by omega), if_neg (by omega)]; exact hr2, rfl⟩
 ·obtain rfl : k = b.ops.length := by omega
  rw [List.take_length] at hr
  have htl := psN_to numF b.ops
  have hps : b.ps numF = ⟨b.pcs, (psN numF b.ops).l, b.exits.map (renE (psN numF b.ops).to), b.last⟩ := rfl
  rw [hps]
  generalize psN numF b.ops = f at *
  have kE := fun h : Heap => rExits_spec (G := G) (h := h) b.exits f.to (fun k hk => exOK_of (hexs k hk) htl) hs2 (fun k hk => getD_map (n := k) hs3)
  simp only [push_cast, simprocAttr, hk2]
  refine hr.freeze fun h1 o1 => ?_
  simp only [push_cast, simprocAttr]
  refine wkQ.own o1 ?_
  simp only [push_cast, simprocAttr]
  refine (kE _).to ?_
  simp only [push_cast, simprocAttr]
  exact ⟨rfl, sub_upd hb2 (.refl _)⟩
end Go.Ab
end
section
namespace Go.Ab
open Go.Proofs
variable {G : Glo} {h : Heap}
end Go.Ab
end
section
namespace Go.Ab
open Go.Proofs
variable {G : Glo} {h : Heap}
def hitX (n : Nat) (o : IOp) : Bool := decide (4 ≤ o.code) && decide (o.x = n) || decide (o.code = 5) && decide (o.y = n)
theorem rNamed_spec (b : IBk) (n : Nat) (hl : b.ops.length ≤ 1000000000000) : Spec Tryz.prog G 84 [.agg b.cells, .int .i64 n] h (Is (.bool (namedX b.ops b.last n)) h) := by
 have hN : namedX b.ops b.last n = (decide (b.last = n) || b.ops.any (hitX n)) := rfl
 rw [hN]
 clear hN
 refine Spec.is C84ok rfl ?_
 by_cases c : b.last = n
 ·rw [decide_eq_true c]
  simp only [push_cast, simprocAttr, c]
  try simp
 ·rw [decide_eq_false c, Bool.false_or]
  simp only [push_cast, simprocAttr, c]
  refine lpc.rel [1, 2, 5] (fun m ρ h' => ∃ k : Nat, m = b.ops.length - k ∧ k ≤ b.ops.length ∧ h = h' ∧ (∀ i, i < k → hitX n (b.ops.getD i IOp.zero) = false) ∧ ρ = [(1, .int .i64 n), (2, .cp b.cells 0), (5, .int .i64 (k : Int))]) ⟨_, 0, rfl, by omega, rfl, fun i hi => by omega, rfl⟩ ?_
  rintro m _ _ ⟨k, rfl, hk, rfl, hall, rfl⟩
  by_cases hk2 : k < b.ops.length
  ·have hon : hitX n (b.ops.getD k IOp.zero) = true → b.ops.any (hitX n) = true := fun q => by
    rw [List.any_eq_true]
    exact ⟨b.ops[k], List.getElem_mem hk2, by simpa [hk2] using q⟩
   have hoff : hitX n (b.ops.getD k IOp.zero) = false → ∀ i, i < k + 1 → hitX n (b.ops.getD i IOp.zero) = false := fun q i hi => by
    by_cases e : i = k
    ·rw [e]; exact q
    ·exact hall i (by omega)
   have hd : hitX n (b.ops.getD k IOp.zero) = (decide (4 ≤ (b.ops.getD k IOp.zero).code) && decide ((b.ops.getD k IOp.zero).x = n) || decide ((b.ops.getD k IOp.zero).code = 5) && decide ((b.ops.getD k IOp.zero).y = n)) := rfl
   generalize hitX n (b.ops.getD k IOp.zero) = X at *
   generalize hO : b.ops.getD k IOp.zero = o at *
   simp only [push_cast, simprocAttr, hk2, hO]
   intro b6 hb6
   rw [era_none hb6]
   cases X with
   | true =>
    have := hon rfl
    rw [this]
    have hd' := hd.symm
    simp only [Bool.or_eq_true, Bool.and_eq_true, decide_eq_true_eq] at hd'
    by_cases c4 : o.code ≥ 4
    ·by_cases cx : o.x = n
     ·simp only [push_cast, simprocAttr, c4, cx]
     ·rcases hd' with q | ⟨q1, q2⟩
      ·exact absurd q.2 cx
      ·simp only [push_cast, simprocAttr, c4, cx, q1, q2]
    ·rcases hd' with q | ⟨q1, q2⟩
     ·exact absurd q.1 c4
     ·omega
   | false =>
    have hoff := hoff rfl
    have hd' := hd.symm
    simp only [Bool.or_eq_false_iff, Bool.and_eq_false_iff, decide_eq_false_iff_not] at hd'
    obtain ⟨d1, d2⟩ := hd'
    by_cases c4 : o.code ≥ 4
    ·have cx : ¬ o.x = n := d1.resolve_left (fun q => q c4)
     by_cases c5 : o.code = 5
     ·have cy : ¬ o.y = n := d2.resolve_left (fun q => q c5)
      simp (disch := omega) only [push_cast, simprocAttr, wrap_i64, toNat_ofInt64, Nat.min_eq_left, Int.toNat_of_nonneg, c5, cx, cy]
      (try intro _)
      exact ⟨_, _, by omega, .refl _, k + 1, rfl, by omega, rfl, hoff, rfl⟩
     ·simp (disch := omega) only [push_cast, simprocAttr, wrap_i64, toNat_ofInt64, Nat.min_eq_left, Int.toNat_of_nonneg, c4, c5, cx]
      (try intro _)
      exact ⟨_, _, by omega, .refl _, k + 1, rfl, by omega, rfl, hoff, rfl⟩
    ·have c5 : ¬ o.code = 5 := by omega
     simp (disch := omega) only [push_cast, simprocAttr, wrap_i64, toNat_ofInt64, Nat.min_eq_left, Int.toNat_of_nonneg, c4, c5]
     (try intro _)
     (try intro _)
     exact ⟨_, _, by omega, .refl _, k + 1, rfl, by omega, rfl, hoff, rfl⟩
  ·obtain rfl : k = b.ops.length := by omega
   have : b.ops.any (hitX n) = false := by
    rw [List.any_eq_false]
    intro o ho
    obtain ⟨i, hi, rfl⟩ := List.getElem_of_mem ho
    have := hall i hi
    simp [hi] at this
    simp [this]
   simp only [push_cast, simprocAttr, hk2, this]
theorem rknown31_spec (l : List IOp) (o : IOp) (hl : l.length ≤ 1000000000000) (hi : 5 ≤ (o.imm.toNat : Int) ∧ (o.imm.toNat : Int) ≤ 10) (ha : 0 ≤ o.a ∧ o.a < l.length) (hb : 0 ≤ o.b ∧ o.b < l.length) : Spec Tryz.prog G 81 [ops l, .agg o.cells] h (Is (.int .i64 (gk l o)) h) := by
 obtain ⟨a0, a1⟩ := ha
 obtain ⟨b0, b1⟩ := hb
 have qa : o.a.toNat < l.length := by omega
 have qb : o.b.toNat < l.length := by omega
 have kT := fun h : Heap => rTaken_spec (G := G) (h := h) (o.imm.toNat : Int) (l.getD o.a.toNat IOp.zero).imm (l.getD o.b.toNat IOp.zero).imm hi
 obtain ⟨R, hR⟩ : ∃ R, R = gk l o := ⟨_, rfl⟩
 rw [← hR]
 unfold gk at hR
 generalize hA : l.getD o.a.toNat IOp.zero = A at *
 generalize hB : l.getD o.b.toNat IOp.zero = B at *
 have kO := fun h : Heap => rother_spec (G := G) (h := h) (o.imm.toNat : Int)
 refine Spec.is C81ok rfl ?_
 simp only [push_cast, simprocAttr, a0, a1, b0, b1, qa, qb, hA, hB]
 intro b6 hb6
 rw [era_none hb6]
 intro b7 hb7
 rw [era_none hb7]
 refine ⟨fun c => (kT _).to ?_, fun c => ⟨fun c2 => ?_, fun c2 => ?_⟩⟩
 ·rw [if_pos c] at hR
  cases hv : takenN o.imm.toNat A.imm B.imm
  ·rw [hv] at hR
   simp only [push_cast, simprocAttr]
   rw [hR]; rfl
  ·rw [hv] at hR
   simp only [push_cast, simprocAttr]
   rw [hR]; rfl
 ·have c' : ¬ (A.code = 2 ∧ B.code = 2) := fun q => by simp [q.1, q.2] at c
  rw [if_neg c', if_pos c2] at hR
  by_cases q : (o.imm.toNat : Int) = 5 ∨ (o.imm.toNat : Int) = 8 ∨ (o.imm.toNat : Int) = 10
  ·rw [if_pos q] at hR
   refine ⟨fun _ => ⟨by rw [hR], .refl _⟩, fun z => by omega⟩
  ·rw [if_neg q] at hR
   refine ⟨fun z => by omega, fun _ => ⟨by rw [hR], .refl _⟩⟩
 ·have c' : ¬ (A.code = 2 ∧ B.code = 2) := fun q => by simp [q.1, q.2] at c
  rw [if_neg c', if_neg c2] at hR
  refine lpc.rel [0, 3, 5, 8] (fun m ρ h' => ∃ k : Nat, m = l.length - k ∧ k ≤ l.length ∧ h = h' ∧ R = scanG (l.drop k) o ∧ ρ = [(0, ops l), (3, .cp o.cells 0), (5, .int .i64 (o.imm.toNat : Int)), (8, .int .i64 (k : Int))]) ⟨_, 0, rfl, by omega, rfl, by rw [hR, List.drop_zero], rfl⟩ ?_
  clear hR
  rintro m _ _ ⟨k, rfl, hk, rfl, hsc, rfl⟩
  by_cases hk2 : k < l.length
  ·have g0 := ops_0 l k
   have g1 := ops_1 l k
   have g2 := ops_2 l k
   have g3 := ops_3 l k
   rw [if_pos hk2] at g0 g1 g2 g3
   have hs : scanG (l.drop k) o = if (l.getD k IOp.zero).code = 6 ∧ (l.getD k IOp.zero).a = o.a ∧ (l.getD k IOp.zero).b = o.b then (if ((l.getD k IOp.zero).imm.toNat : Int) = o.imm.toNat then 1 else if ((l.getD k IOp.zero).imm.toNat : Int) = otherN o.imm.toNat then 2 else scanG (l.drop (k + 1)) o) else scanG (l.drop (k + 1)) o := by
    rw [List.drop_eq_getElem_cons hk2, scanG]
    simp [hk2]
   generalize hP : l.getD k IOp.zero = p at *
   have e6 : (p.code == 6) = decide (p.code = 6) := rfl
   have ea : (p.a == o.a) = decide (p.a = o.a) := rfl
   have eb : (p.b == o.b) = decide (p.b = o.b) := rfl
   have ei : ((p.imm.toNat : Int) == (o.imm.toNat : Int)) = decide ((p.imm.toNat : Int) = o.imm.toNat) := rfl
   have ej : ((p.imm.toNat : Int) == otherN o.imm.toNat) = decide ((p.imm.toNat : Int) = otherN o.imm.toNat) := rfl
   by_cases d6 : p.code = 6
   ·rw [decide_eq_true d6] at e6
    by_cases da : p.a = o.a
    ·rw [decide_eq_true da] at ea
     by_cases db : p.b = o.b
     ·rw [decide_eq_true db] at eb
      rw [if_pos ⟨d6, da, db⟩] at hs
      by_cases di : (p.imm.toNat : Int) = o.imm.toNat
      ·rw [decide_eq_true di] at ei
       rw [if_pos di] at hs
       simp (disch := omega) only [push_cast, simprocAttr, wrap_i64, toNat_ofInt64, Nat.min_eq_left, Int.toNat_of_nonneg, hk2, hP, g0, g1, g2, g3, e6, ea, eb, ei]
       rw [hsc, hs]
      ·rw [decide_eq_false di] at ei
       rw [if_neg di] at hs
       simp (disch := omega) only [push_cast, simprocAttr, wrap_i64, toNat_ofInt64, Nat.min_eq_left, Int.toNat_of_nonneg, hk2, hP, g0, g1, g2, g3, e6, ea, eb, ei]
       refine (kO _).to ?_
       by_cases dj : (p.imm.toNat : Int) = otherN o.imm.toNat
       ·rw [decide_eq_true dj] at ej
        rw [if_pos dj] at hs
        simp (disch := omega) only [push_cast, simprocAttr, wrap_i64, toNat_ofInt64, Nat.min_eq_left, Int.toNat_of_nonneg, hk2, hP, ej]
        rw [hsc, hs]
       ·rw [decide_eq_false dj] at ej
        rw [if_neg dj] at hs
        simp (disch := omega) only [push_cast, simprocAttr, wrap_i64, toNat_ofInt64, Nat.min_eq_left, Int.toNat_of_nonneg, hk2, hP, ej]
        exact ⟨_, _, by omega, .refl _, k + 1, rfl, by omega, rfl, by rw [hsc, hs], rfl⟩
     ·rw [decide_eq_false db] at eb
      rw [if_neg (fun h => db h.2.2)] at hs
      simp (disch := omega) only [push_cast, simprocAttr, wrap_i64, toNat_ofInt64, Nat.min_eq_left, Int.toNat_of_nonneg, hk2, hP, g0, g1, g2, g3, e6, ea, eb]
      exact ⟨_, _, by omega, .refl _, k + 1, rfl, by omega, rfl, by rw [hsc, hs], rfl⟩
    ·rw [decide_eq_false da] at ea
     rw [if_neg (fun h => da h.2.1)] at hs
     simp (disch := omega) only [push_cast, simprocAttr, wrap_i64, toNat_ofInt64, Nat.min_eq_left, Int.toNat_of_nonneg, hk2, hP, g0, g1, g2, g3, e6, ea]
     exact ⟨_, _, by omega, .refl _, k + 1, rfl, by omega, rfl, by rw [hsc, hs], rfl⟩
   ·rw [decide_eq_false d6] at e6
    rw [if_neg (fun h => d6 h.1)] at hs
    simp (disch := omega) only [push_cast, simprocAttr, wrap_i64, toNat_ofInt64, Nat.min_eq_left, Int.toNat_of_nonneg, hk2, hP, g0, g1, g2, g3, e6]
    exact ⟨_, _, by omega, .refl _, k + 1, rfl, by omega, rfl, by rw [hsc, hs], rfl⟩
  ·obtain rfl : k = l.length := by omega
   rw [List.drop_length] at hsc
   simp only [push_cast, simprocAttr, hk2]
   rw [hsc]; rfl
end Go.Ab
end
section
namespace Go.Ab
open Go.Proofs
variable {G : Glo} {h : Heap}
def kepK (nm : Nat → Bool) (es : List IEx) (k : Nat) : List IEx := ((List.range k).filter nm).map fun n => es.getD n IEx.zero
theorem kepK_len (nm es k) : (kepK nm es k).length = plN nm k := by simp [kepK, plN]
theorem kepK_succ (nm es k) : kepK nm es (k + 1) = if nm k then kepK nm es k ++ [es.getD k IEx.zero] else kepK nm es k := by
 unfold kepK
 rw [List.range_succ, List.filter_append, List.map_append]
 cases hm : nm k <;> simp [hm]
theorem upk_succ (kp : Nat → Bool) (n : Nat) : upk kp (n + 1) = upk kp n ++ [(plN kp n : Int)] := by simp [upk, List.range_succ]

theorem take_succD (l : List IOp) (k : Nat) (hk : k < l.length) (f : IOp → IOp) : ((l.map f).take (k + 1)).flatMap IOp.cells = ((l.map f).take k).flatMap IOp.cells ++ (f (l.getD k IOp.zero)).cells := by
 rw [flat_snoc IOp.cells (l.map f) IOp.zero k (by simpa using hk)]
 simp [hk]
theorem rnx_ops {g : Heap} {b8 b4 : Nat} {pcs : List (BitVec 32)} {l : List IOp} {es : List IEx} {last : Int} {pl : Nat → Nat} {x8 y8 : AV} {Q : Exit → Env → Heap → Prop} {N : Nat} {places : List Int} (hpl : ∀ i, i < N → places.getD i 0 = (pl i : Int)) (hpn : places.length = N) (hg : g b8 = none) (hl : l.length ≤ 1000000000000)
  (hx : ∀ j : Nat, j < l.length → (l.getD j IOp.zero).code ≤ 6 ∧ (4 ≤ (l.getD j IOp.zero).code → 0 ≤ (l.getD j IOp.zero).x ∧ (l.getD j IOp.zero).x < (N : Int)) ∧ ((l.getD j IOp.zero).code = 5 → 0 ≤ (l.getD j IOp.zero).y ∧ (l.getD j IOp.zero).y < (N : Int)))
  (hq : ∀ ρ v H', lk ρ 4 = .ptr b4 0 → lk ρ 8 = .ptr b8 0 → Own 6 (Ab.upd g b8 ⟨[.ro (wds pcs) pcs.length, v, x8, y8], 0⟩) v ((l.map (reX pl)).flatMap IOp.cells) l.length H' → Q .normal ρ H') :
  wpc Tryz.prog G Tryz.f82.ntmps C82_44 Q [(2, .cp (IBk.cells ⟨pcs, l, es, last⟩) 0), (4, .ptr b4 0), (5, ints places), (8, .ptr b8 0)] (Ab.upd g b8 ⟨[.ro (wds pcs) pcs.length, .nils, x8, y8], 0⟩) := by
 simp only [push_cast, simprocAttr]
 refine lpc.rel [2, 4, 5, 8, 9] (fun m ρ h' => ∃ (k : Nat) (v : AV), m = l.length - k ∧ k ≤ l.length ∧ Own 6 (Ab.upd g b8 ⟨[.ro (wds pcs) pcs.length, v, x8, y8], 0⟩) v (((l.map (reX pl)).take k).flatMap IOp.cells) k h' ∧
  ρ = [(2, .cp (IBk.cells ⟨pcs, l, es, last⟩) 0), (4, .ptr b4 0), (5, ints places), (8, .ptr b8 0), (9, .int .i64 (k : Int))]) ⟨_, 0, .nils, rfl, by omega, .nil, rfl⟩ ?_
 rintro m _ h2 ⟨k, v, rfl, hk, hown, rfl⟩
 have hb8 := hown.get (upd_same _ _ _)
 by_cases hk2 : k < l.length
 ·obtain ⟨x6, x4, x5⟩ := hx k hk2
  have hsn := take_succD l k hk2 (reX pl)
  generalize hO : l.getD k IOp.zero = o at *
  have fin : ∀ b10, h2 b10 = none → ∀ H, H = Ab.upd h2 b10 ⟨(reX pl o).cells, 0⟩ → ∀ Q', (∀ ρ v' H' h6, lk ρ 2 = .cp (IBk.cells ⟨pcs, l, es, last⟩) 0 → lk ρ 4 = .ptr b4 0 → lk ρ 5 = ints places → lk ρ 8 = .ptr b8 0 → lk ρ 9 = .int .i64 (k : Int) → Sub h6 H' → Own 6 (Ab.upd g b8 ⟨[.ro (wds pcs) pcs.length, v', x8, y8], 0⟩) v' (((l.map (reX pl)).take k).flatMap IOp.cells ++ (reX pl o).cells) (k + 1) h6 → Q' .normal ρ H') →
    wpc Tryz.prog G Tryz.f82.ntmps C82_34 Q' [(2, .cp (IBk.cells ⟨pcs, l, es, last⟩) 0), (4, .ptr b4 0), (5, ints places), (8, .ptr b8 0), (9, .int .i64 (k : Int)), (10, .ptr b10 0)] H := by
   rintro b10 hb10 H rfl Q' hq'
   have n1 : ¬ b8 = b10 := fun e => by rw [← e, hb8] at hb10; cases hb10
   have n2 : ¬ b10 = b8 := fun e => n1 e.symm
   have ho' := Own.upd hown (b := b10) (x := ⟨(reX pl o).cells, 0⟩) (.inl hb10)
   simp only [push_cast, simprocAttr, upd_at, n1, n2, hb8]
   refine Own.app ho' (m := 1) (IOp.len _) (by omega) (by omega) fun v4 h4 ho4 => ?_
   have hg8 := ho4.get (b := b8) (by rw [upd_ne n1]; exact upd_same _ _ _)
   simp (disch := omega) only [push_cast, simprocAttr, wrap_i64, toNat_ofInt64, Nat.min_eq_left, Int.toNat_of_nonneg, hg8, ho4.one]
   have ho5 := Own.upd ho4 (b := b8) (x := ⟨[.ro (wds pcs) pcs.length, v4, x8, y8], 0⟩) (.inr ⟨_, by rw [upd_ne n1]; exact upd_same _ _ _⟩)
   rw [upd_comm n2, upd_upd] at ho5
   obtain ⟨h6, hs6, ho6⟩ := Own.drop ho5 (by
    have := hown.sub.none hb10
    rw [upd_ne n2] at this
    rw [upd_ne n2]; exact this)
   exact hq' _ v4 _ h6 rfl rfl rfl rfl rfl hs6 ho6
  show wpc _ _ _ (.seq [2, 4, 5, 8, 9] C82_24 (.seq [2, 4, 5, 8, 9] (.block 3 (.seq [2, 4, 5, 8, 9, 10] C82_25 (.seq [2, 4, 5, 8, 9, 10] C82_29 (.seq [2, 4, 5, 8, 9, 10] C82_33 C82_34)))) C82_39)) _ _ _
  generalize C82_34 = Y at fin ⊢
  by_cases c5 : o.code = 5
  ·obtain ⟨p1, p2⟩ := x4 (by omega)
   obtain ⟨p3, p4⟩ := x5 c5
   have q1 : o.x.toNat < places.length := by omega
   have q2 : o.y.toNat < places.length := by omega
   have r1 := hpl o.x.toNat (by omega)
   have r2 := hpl o.y.toNat (by omega)
   have p2' : o.x < (places.length : Int) := by omega
   have p4' : o.y < (places.length : Int) := by omega
   have e : reX pl o = { o with x := (pl o.x.toNat : Int), y := (pl o.y.toNat : Int) } := by unfold reX; rw [if_pos c5]
   simp only [push_cast, simprocAttr, hk2, hO]
   intro b10 hb10
   have fin := fun H hH Q' => fin b10 hb10 H hH Q'
   rw [e, c5] at fin
   simp only [push_cast, simprocAttr, hk2, c5, p1, p2', p3, p4', q1, q2, r1, r2]
   refine fin _ rfl _ fun ρ v' H' h6 l2 l4 l5 l8 l9 hs6 ho6 => ?_
   simp (disch := omega) only [push_cast, simprocAttr, wrap_i64, toNat_ofInt64, Nat.min_eq_left, Int.toNat_of_nonneg, l2, l4, l5, l8, l9]
   exact ⟨_, h6, by omega, hs6, k + 1, v', rfl, by omega, by rw [hsn, e, c5]; exact ho6, rfl⟩
  ·by_cases c4 : o.code ≥ 4
   ·obtain ⟨p1, p2⟩ := x4 (by omega)
    have q1 : o.x.toNat < places.length := by omega
    have r1 := hpl o.x.toNat (by omega)
    have p2' : o.x < (places.length : Int) := by omega
    have e : reX pl o = { o with x := (pl o.x.toNat : Int) } := by unfold reX; rw [if_neg c5, if_pos c4]
    simp only [push_cast, simprocAttr, hk2, hO]
    intro b10 hb10
    have fin := fun H hH Q' => fin b10 hb10 H hH Q'
    rw [e] at fin
    simp only [push_cast, simprocAttr, hk2, c4, c5, p1, p2', q1, r1]
    refine fin _ rfl _ fun ρ v' H' h6 l2 l4 l5 l8 l9 hs6 ho6 => ?_
    simp (disch := omega) only [push_cast, simprocAttr, wrap_i64, toNat_ofInt64, Nat.min_eq_left, Int.toNat_of_nonneg, l2, l4, l5, l8, l9]
    exact ⟨_, h6, by omega, hs6, k + 1, v', rfl, by omega, by rw [hsn, e]; exact ho6, rfl⟩
   ·have e : reX pl o = o := by unfold reX; rw [if_neg c5, if_neg c4]
    simp only [push_cast, simprocAttr, hk2, hO]
    intro b10 hb10
    have fin := fun H hH Q' => fin b10 hb10 H hH Q'
    rw [e] at fin
    simp only [push_cast, simprocAttr, hk2, c4, c5]
    refine fin _ rfl _ fun ρ v' H' h6 l2 l4 l5 l8 l9 hs6 ho6 => ?_
    simp (disch := omega) only [push_cast, simprocAttr, wrap_i64, toNat_ofInt64, Nat.min_eq_left, Int.toNat_of_nonneg, l2, l4, l5, l8, l9]
    exact ⟨_, h6, by omega, hs6, k + 1, v', rfl, by omega, by rw [hsn, e]; exact ho6, rfl⟩
 ·obtain rfl : k = l.length := by omega
  rw [List.take_of_length_le (by simp)] at hown
  simp only [push_cast, simprocAttr, hk2]
  exact hq _ v _ rfl rfl hown
end Go.Ab
end
section
namespace Go.Ab
open Go.Proofs
variable {G : Glo} {h : Heap}
theorem kepK_get {nm : Nat → Bool} {es : List IEx} {j : Nat} (h : j < (kepK nm es es.length).length) : ∃ n, n < es.length ∧ nm n = true ∧ (kepK nm es es.length).getD j IEx.zero = es.getD n IEx.zero := by
 have hm : (kepK nm es es.length).getD j IEx.zero ∈ kepK nm es es.length := by
  rw [List.getD_eq_getElem?_getD, List.getElem?_eq_getElem h]
  exact List.getElem_mem h
 generalize (kepK nm es es.length).getD j IEx.zero = e at *
 unfold kepK at hm
 simp only [List.mem_map, List.mem_filter, List.mem_range] at hm
 obtain ⟨n, ⟨h1, h2⟩, rfl⟩ := hm
 exact ⟨n, h1, h2, rfl⟩
theorem rnamedX_spec {pcs : List (BitVec 32)} {l : List IOp} {es : List IEx} {last : Int} {to : List Int} (hl : l.length ≤ 1000000000000) (hs2 : es.length ≤ 1000000000000) (hm : ∀ k, k < es.length → (es.getD k IEx.zero).map.length ≤ 1000000000000) (hlast : 0 ≤ last ∧ last < es.length)
  (hx : ∀ j : Nat, j < l.length → (l.getD j IOp.zero).code ≤ 6 ∧ (4 ≤ (l.getD j IOp.zero).code → 0 ≤ (l.getD j IOp.zero).x ∧ (l.getD j IOp.zero).x < es.length) ∧ ((l.getD j IOp.zero).code = 5 → 0 ≤ (l.getD j IOp.zero).y ∧ (l.getD j IOp.zero).y < es.length))
  (hok : ∀ n, n < es.length → namedX l last n = true → exOK to (es.getD n IEx.zero)) :
  Spec Tryz.prog G 82 [.agg (IBk.cells ⟨pcs, l, es, last⟩), ints to] h (Is (.agg (prB pcs l es last (renE to)).cells) h) := by
 have kN := fun (n : Nat) (h : Heap) => rNamed_spec (G := G) (h := h) ⟨pcs, l, es, last⟩ n hl
 have hpa : partOf (IBk.cells ⟨pcs, l, es, last⟩) 0 (some 4) = some (.agg (IBk.cells ⟨pcs, l, es, last⟩)) := partOf_all rfl
 simp only at kN
 have hprB : prB pcs l es last (renE to) = ⟨pcs, l.map (reX (plN (namedX l last))), (kepK (namedX l last) es es.length).map (renE to), (plN (namedX l last) last.toNat : Int)⟩ := rfl
 rw [hprB]
 clear hprB
 generalize hnm : namedX l last = nm at *
 obtain ⟨l0, l1⟩ := hlast
 refine Spec.is C82ok rfl ?_
 simp only [push_cast, simprocAttr]
 intro b4 hb4 b11 hb11 b12 hb12
 have i1 : Own 1 (Ab.upd h b4 ⟨[.nils, .nils, .nils, .int .i64 0], 0⟩) (.sl b11 0 0 0) [] 0 _ := own_new hb11
 have i2 : Own 5 _ (.sl b12 0 0 0) [] 0 _ := own_new hb12
 refine lpc.rel [1, 2, 4, 5, 6, 7] (fun m ρ h' => ∃ (k : Nat) (v5 v6 : AV) (h1 : Heap), m = es.length - k ∧ k ≤ es.length ∧ Own 1 (Ab.upd h b4 ⟨[.nils, .nils, .nils, .int .i64 0], 0⟩) v5 ((upk nm k).map (.int .i64)) k h1 ∧ Own 5 h1 v6 ((kepK nm es k).flatMap IEx.cells) (plN nm k) h' ∧
  ρ = [(1, ints to), (2, .cp (IBk.cells ⟨pcs, l, es, last⟩) 0), (4, .ptr b4 0), (5, v5), (6, v6), (7, .int .i64 (k : Int))]) ⟨_, 0, _, _, _, rfl, by omega, i1, i2, rfl⟩ ?_
 rintro m _ h2 ⟨k, v5, v6, h1, rfl, hk, o1, o2, rfl⟩
 have hal := o2.alen
 have hple := plN_le nm k
 by_cases hk2 : k < es.length
 ·have hus := upk_succ nm k
  have hks := kepK_succ nm es k
  have hps := plN_succ nm k
  obtain ⟨h3, o3, o4⟩ := own_swap o1 o2
  have ep := exs_p es k
  rw [if_pos hk2] at ep
  simp only [push_cast, simprocAttr, hk2, hal]
  refine Own.app o4 (m := 1) rfl (by omega) (by omega) fun v5' h4 o5 => ?_
  simp only [push_cast, simprocAttr, o5.one, hpa]
  refine (kN k _).to ?_
  obtain ⟨h5, o6, o7⟩ := own_swap o3 o5
  have o6' : Own 1 (Ab.upd h b4 ⟨[.nils, .nils, .nils, .int .i64 0], 0⟩) v5' ((upk nm (k + 1)).map (.int .i64)) (k + 1) h5 := by rw [hus]; simpa using o6
  cases hv : nm k with
  | true =>
   rw [hv] at hps hks
   simp only [push_cast, simprocAttr, ep, hk2]
   refine Own.app o7 (m := 1) (IEx.len _) (by omega) (by omega) fun v6' h6 o8 => ?_
   simp (disch := omega) only [push_cast, simprocAttr, wrap_i64, toNat_ofInt64, Nat.min_eq_left, Int.toNat_of_nonneg, o8.one]
   have o8' : Own 5 h5 v6' ((kepK nm es (k + 1)).flatMap IEx.cells) (plN nm (k + 1)) h6 := by
    rw [hks, hps]; simpa using o8
   exact ⟨_, _, by omega, .refl _, k + 1, v5', v6', h5, rfl, by omega, o6', o8', rfl⟩
  | false =>
   rw [hv] at hps hks
   have o7' : Own 5 h5 v6 ((kepK nm es (k + 1)).flatMap IEx.cells) (plN nm (k + 1)) h4 := by
    rw [hks, hps]; simpa using o7
   simp (disch := omega) only [push_cast, simprocAttr, wrap_i64, toNat_ofInt64, Nat.min_eq_left, Int.toNat_of_nonneg]
   exact ⟨_, _, by omega, .refl _, k + 1, v5', v6, h5, rfl, by omega, o6', o7', rfl⟩
 ·obtain rfl : k = es.length := by omega
  obtain ⟨h3, o3, o4⟩ := own_swap o1 o2
  have hkl := kepK_len nm es es.length
  have hul : (upk nm es.length).length = es.length := by simp [upk]
  have hug := upk_get (kp := nm) (n := es.length) (i := last.toNat) (by omega)
  have ql : last.toNat < (upk nm es.length).length := by omega
  have kE := fun h : Heap => rExits_spec (G := G) (h := h) (kepK nm es es.length) to (fun j hj => by
   obtain ⟨n, q1, q2, q3⟩ := kepK_get hj
   rw [q3]; exact hok n q1 q2) (by omega) (fun j hj => by
   obtain ⟨n, q1, q2, q3⟩ := kepK_get hj
   rw [q3]; exact hm n q1)
  have o4' : Own 1 h3 v5 ((upk nm es.length).map (.int .i64)) (upk nm es.length).length h2 := by rw [hul]; exact o4
  have o3' : Own 5 (Ab.upd h b4 ⟨[.nils, .nils, .nils, .int .i64 0], 0⟩) v6 ((kepK nm es es.length).flatMap IEx.cells) (kepK nm es es.length).length h3 := by rw [hkl]; exact o3
  simp only [push_cast, simprocAttr, hk2]
  refine wkQ.own o4' ?_
  simp only [push_cast, simprocAttr]
  refine wkQ.own o3' ?_
  have hT := fun b8 (hb8 : Ab.upd h b4 ⟨[.nils, .nils, .nils, .int .i64 0], 0⟩ b8 = none) x8 y8 Q hq => rnx_ops (G := G) (b8 := b8) (b4 := b4) (pcs := pcs) (l := l) (es := es) (last := last) (pl := plN nm) (N := es.length) (places := upk nm es.length) (x8 := x8) (y8 := y8) (Q := Q) (fun i hi => upk_get hi) hul hb8 hl hx hq
  show wpc _ _ _ (.seq [2, 4, 5, 8] C82_20 (.seq [4, 8] C82_44 C82_47)) _ _ _
  generalize C82_44 = Y at hT ⊢
  have hI : ints (upk nm es.length) = .ro ((upk nm es.length).map (.int .i64)) es.length := by show AV.ro _ _ = _; rw [hul]
  simp only [hI] at hT
  have q : last.toNat < es.length := by omega
  have hN : ∀ b8, Ab.upd h b4 ⟨[.nils, .nils, .nils, .int .i64 0], 0⟩ b8 = none → ¬ b4 = b8 := fun b8 hb8 => Ne.symm (upd_none hb8).1
  simp only [push_cast, simprocAttr, l0, l1, ql, hul, hug]
  refine ⟨q, (kE _).to ?_, fun b8 hb8 => ⟨by rw [if_pos q], (kE _).to ?_⟩⟩
  ·simp only [push_cast, simprocAttr, l0, l1, ql, hul, hug]
   refine ⟨by rw [if_pos q], fun b8 hb8 => ?_⟩
   refine ⟨by rw [if_pos q], hT b8 hb8 _ _ _ fun ρ v H' l4 l8 ho => ?_⟩
   have n1 := hN b8 hb8
   have hlm : (l.map (reX (plN nm))).length = l.length := by simp
   rw [← hlm] at ho
   simp only [push_cast, simprocAttr, l4, l8]
   refine wkQ.cell ho (cs' := IBk.cells ⟨pcs, l.map (reX (plN nm)), (kepK nm es es.length).map (renE to), (plN nm last.toNat : Int)⟩) rfl (fun i => ?_) ?_
   ·match i with
    | 0 => exact .inl rfl
    | 1 => exact .inr ⟨rfl, rfl⟩
    | 2 => exact .inl rfl
    | 3 => exact .inl rfl
    | i + 4 => exact .inl rfl
   simp only [push_cast, simprocAttr, upd_at, n1, Ne.symm n1]
   (repeat first | refine sub_upd hb4 ?_ | refine sub_upd (upd_none hb8).2 ?_)
   exact .refl _
  ·simp only [push_cast, simprocAttr, l0, l1, ql, hul, hug]
   refine ⟨by rw [if_pos q], hT b8 hb8 _ _ _ fun ρ v H' l4 l8 ho => ?_⟩
   have n1 := hN b8 hb8
   have hlm : (l.map (reX (plN nm))).length = l.length := by simp
   rw [← hlm] at ho
   simp only [push_cast, simprocAttr, l4, l8]
   refine wkQ.cell ho (cs' := IBk.cells ⟨pcs, l.map (reX (plN nm)), (kepK nm es es.length).map (renE to), (plN nm last.toNat : Int)⟩) rfl (fun i => ?_) ?_
   ·match i with
    | 0 => exact .inl rfl
    | 1 => exact .inr ⟨rfl, rfl⟩
    | 2 => exact .inl rfl
    | 3 => exact .inl rfl
    | i + 4 => exact .inl rfl
   simp only [push_cast, simprocAttr, upd_at, n1, Ne.symm n1]
   (repeat first | refine sub_upd hb4 ?_ | refine sub_upd (upd_none hb8).2 ?_)
   exact .refl _
end Go.Ab
end
section
namespace Go.Ab
open Go.Proofs
variable {G : Glo} {h : Heap}
theorem scanG_rng (o : IOp) : ∀ l : List IOp, scanG l o = 0 ∨ scanG l o = 1 ∨ scanG l o = 2 := by
 intro l
 induction l with
 | nil => exact .inl rfl
 | cons p r ih => rw [scanG]; (repeat' split) <;> first | exact ih | simp
theorem gk_rng (l : List IOp) (o : IOp) : gk l o = 0 ∨ gk l o = 1 ∨ gk l o = 2 := by
 unfold gk
 (repeat' split) <;> first | exact scanG_rng o l | simp
def howN (l : List IOp) (o : IOp) : Int := if o.code = 6 then gk l o else 0
theorem rguard_mid {g H : Heap} {vl vt : AV} {l : List IOp} {to : List Int} {b8 b2 : Nat} {o : IOp} {u w : AV} {last : Int} {Q : Exit → Env → Heap → Prop} (hr : TwoO (Ab.upd g b8 ⟨o.cells, 0⟩) vl l vt to H) (hl : l.length + 1 ≤ 1000000000000) (ht : to.length + 1 ≤ 1000000000000)
  (hk : o.code = 6 → (5 ≤ (o.imm.toNat : Int) ∧ (o.imm.toNat : Int) ≤ 10) ∧ (0 ≤ o.a ∧ o.a < l.length) ∧ 0 ≤ o.b ∧ o.b < l.length)
  (hq : ∀ ρ vl' vt' x H', lk ρ 1 = u → lk ρ 2 = .ptr b2 0 → lk ρ 3 = vl' → lk ρ 4 = vt' → lk ρ 5 = .int .i64 (if howN l o = 2 then o.x else last) → lk ρ 6 = .bool (decide (howN l o = 2)) → lk ρ 7 = w →
   TwoO (Ab.upd g b8 x) vl' (if howN l o = 0 then l ++ [o] else l) vt' (to ++ [(l.length : Int)]) H' → Q .normal ρ H') :
  wpc Tryz.prog G Tryz.f42.ntmps C42_37 Q [(1, u), (2, .ptr b2 0), (3, vl), (4, vt), (5, .int .i64 last), (6, .bool false), (7, w), (8, .ptr b8 0)] H := by
 have hb8 := hr.get (upd_same _ _ _)
 have hal := hr.one.2.2
 have zero : howN l o = 0 → ∀ Q', (∀ ρ vl' vt' x H', lk ρ 1 = u → lk ρ 2 = .ptr b2 0 → lk ρ 3 = vl' → lk ρ 4 = vt' → lk ρ 5 = .int .i64 last → lk ρ 6 = .bool false → lk ρ 7 = w → TwoO (Ab.upd g b8 x) vl' (l ++ [o]) vt' (to ++ [(l.length : Int)]) H' → Q' .normal ρ H') →
   wpc Tryz.prog G Tryz.f42.ntmps C42_35 Q' [(1, u), (2, .ptr b2 0), (3, vl), (4, vt), (5, .int .i64 last), (6, .bool false), (7, w), (8, .ptr b8 0), (9, .int .i64 0)] H := by
  intro _ Q' hq'
  simp only [push_cast, simprocAttr, hb8, hal]
  refine hr.appT l.length ht fun v' h' hr3 => ?_
  have hb3 := hr3.get (upd_same _ _ _)
  simp only [push_cast, simprocAttr, hr3.one.1, hb3]
  refine hr3.appL _ hl fun v4 h4 hr4 => ?_
  simp only [push_cast, simprocAttr, hr4.one.2.1]
  exact hq' _ v4 v' _ _ rfl rfl rfl rfl rfl rfl rfl hr4
 by_cases c6 : o.code = 6
 ·obtain ⟨k1, k2, k3⟩ := hk c6
  have kF := borrow_is (rknown31_spec (G := G) (h := noH) l o (by omega) k1 k2 k3) (h := H) (.cons hr.argL (.cons (.same _ _) .nil)) rfl
  have hh : howN l o = gk l o := if_pos c6
  rw [hh] at hq zero
  have hrng := gk_rng l o
  generalize gk l o = v at *
  rcases hrng with rfl | rfl | rfl
  ·have zero := zero rfl
   show wpc _ _ _ (.seq [1, 2, 3, 4, 5, 6, 7, 8, 9] C42_18 (.seq [1, 2, 3, 4, 5, 6, 7, 8, 9] C42_22 C42_35)) _ _ _
   generalize C42_35 = Y at zero ⊢
   simp only [push_cast, simprocAttr, hb8, c6]
   refine kF.to ?_
   simp only [push_cast, simprocAttr]
   exact zero _ hq
  ·simp only [push_cast, simprocAttr, hb8, c6]
   refine kF.to ?_
   simp only [push_cast, simprocAttr, hb8, hal]
   refine hr.appT l.length ht fun v' h' hr3 => ?_
   simp only [push_cast, simprocAttr, hr3.one.1]
   exact hq _ vl v' _ _ rfl rfl rfl rfl rfl rfl rfl hr3
  ·simp only [push_cast, simprocAttr, hb8, c6]
   refine kF.to ?_
   simp only [push_cast, simprocAttr, hb8, hal]
   refine hr.appT l.length ht fun v' h' hr3 => ?_
   simp only [push_cast, simprocAttr, hr3.one.1]
   exact hq _ vl v' _ _ rfl rfl rfl rfl rfl rfl rfl hr3
 ·have hh : howN l o = 0 := if_neg c6
  rw [hh] at hq zero
  have zero := zero rfl
  show wpc _ _ _ (.seq [1, 2, 3, 4, 5, 6, 7, 8, 9] C42_18 (.seq [1, 2, 3, 4, 5, 6, 7, 8, 9] C42_22 C42_35)) _ _ _
  generalize C42_35 = Y at zero ⊢
  simp only [push_cast, simprocAttr, hb8, c6]
  exact zero _ hq
theorem rguard_head {g h2 : Heap} {vl vt : AV} {l : List IOp} {to : List Int} {b8 b2 : Nat} {o : IOp} {u w w5 w6 : AV} {Q : Exit → Env → Heap → Prop} (hr : TwoO g vl l vt to h2) (hb6 : h2 b8 = none) (hR : renOK to o) (h6 : o.code ≤ 6)
  (T : ∀ H, H = Ab.upd h2 b8 ⟨(ren to o).cells, 0⟩ → wpc Tryz.prog G Tryz.f42.ntmps C42_37 Q [(1, u), (2, .ptr b2 0), (3, vl), (4, vt), (5, w5), (6, w6), (7, w), (8, .ptr b8 0)] H) :
  wpc Tryz.prog G Tryz.f42.ntmps C42_39 Q [(1, u), (2, .ptr b2 0), (3, vl), (4, vt), (5, w5), (6, w6), (7, w), (8, .ptr b8 0)] (Ab.upd h2 b8 ⟨o.cells, 0⟩) := by
 obtain ⟨hR1, hR2⟩ := hR
 show wpc _ _ _ (.seq [1, 2, 3, 4, 5, 6, 7, 8] C42_13 (.seq [1, 2, 3, 4, 5, 6, 7, 8] C42_17 C42_37)) _ _ _
 generalize C42_37 = Y at T ⊢
 by_cases g3 : o.code = 3 ∨ o.code = 5 ∨ o.code = 6
 ·obtain ⟨⟨q1, q2⟩, q3, q4⟩ := hR1 g3
  obtain ⟨bt, pre, cap, sp, rfl, e2, e3⟩ := hr.lieT (by omega)
  have f5 : ¬ bt = b8 := fun e => by rw [← e, e2] at hb6; cases hb6
  have q5 : o.a.toNat < to.length := by omega
  have q6 : o.b.toNat < to.length := by omega
  rcases g3 with g | g | g <;>
  ·simp (disch := omega) only [push_cast, simprocAttr, wrap_i64, toNat_ofInt64, Nat.min_eq_left, Int.toNat_of_nonneg, upd_at, f5, e2, q1, q2, q3, q4, q5, q6, g]
   rw [show ren to o = ⟨o.code, to.getD o.a.toNat 0, to.getD o.b.toNat 0, o.imm, o.x, o.y⟩ from by unfold ren; rw [if_pos (by omega)], g] at T
   exact T _ rfl
 ·by_cases g4 : o.code = 4
  ·obtain ⟨q1, q2⟩ := hR2 g4
   obtain ⟨bt, pre, cap, sp, rfl, e2, e3⟩ := hr.lieT (by omega)
   have f5 : ¬ bt = b8 := fun e => by rw [← e, e2] at hb6; cases hb6
   have q5 : o.a.toNat < to.length := by omega
   simp (disch := omega) only [push_cast, simprocAttr, wrap_i64, toNat_ofInt64, Nat.min_eq_left, Int.toNat_of_nonneg, upd_at, f5, e2, q1, q2, q5, g4]
   rw [show ren to o = ⟨o.code, to.getD o.a.toNat 0, o.b, o.imm, o.x, o.y⟩ from by unfold ren; rw [if_neg g3, if_pos g4], g4] at T
   exact T _ rfl
  ·have g5 : ¬ o.code = 3 := by omega
   have g6 : ¬ o.code ≥ 3 := by omega
   have g7 : ¬ o.code ≥ 5 := by omega
   simp (disch := omega) only [push_cast, simprocAttr, wrap_i64, toNat_ofInt64, Nat.min_eq_left, Int.toNat_of_nonneg, g4, g5, g6, g7]
   rw [show ren to o = o from by unfold ren; rw [if_neg g3, if_neg g4]] at T
   exact T _ rfl
end Go.Ab
end
section
namespace Go.Ab
open Go.Proofs
variable {G : Glo} {h : Heap}
theorem renE_more {to : List Int} {e : IEx} (x : Int) (ok : exOK to e) : exOK (to ++ [x]) e ∧ renE (to ++ [x]) e = renE to e := by
 refine ⟨⟨ok.1.imp id fun h => ⟨h.1, by simp; omega⟩, fun v hv => by have := ok.2 v hv; exact ⟨this.1, by simp; omega⟩⟩, ?_⟩
 unfold renE
 have hmap : e.map.map (renV (to ++ [x])) = e.map.map (renV to) := by
  refine List.map_congr_left fun v hv => ?_
  have := ok.2 v hv
  unfold renV
  rw [getD_lt (by omega)]
 rw [hmap]
 rcases ok.1 with c | c
 ·rw [if_pos c, if_pos c]
 ·rw [getD_lt (by omega)]
theorem rguardDo_spec (b : IBk) (hw : b.wf) (hc : b.check = 0) : Spec Tryz.prog G 42 [.agg b.cells] h (Is (.agg b.gd.cells) h) := by
 obtain ⟨hops, hexs⟩ := right_parts hc
 obtain ⟨hs1, hs2, hs3⟩ := hw.hs
 refine Spec.is C42ok rfl ?_
 simp only [push_cast, simprocAttr]
 intro b2 hb2 b8 hb8 b9 hb9
 have i1 : Own 6 (Ab.upd h b2 ⟨[.nils, .nils, .nils, .int .i64 0], 0⟩) (.sl b8 0 0 0) [] 0 _ := own_new hb8
 have i2 : Own 1 _ (.sl b9 0 0 0) [] 0 _ := own_new hb9
 refine lpc.rel [1, 2, 3, 4, 5, 6, 7] (fun m ρ h' => ∃ (k : Nat) (vl vt : AV) (s : Ps) (to' : List Int) (last : Int) (en : Bool), m = (if en then 0 else b.ops.length - k + 1) ∧ k ≤ b.ops.length ∧ TwoO (Ab.upd h b2 ⟨[.nils, .nils, .nils, .int .i64 0], 0⟩) vl s.l vt to' h' ∧
  (if en then gScan b.last b.ops ⟨[], []⟩ = (s, last) ∧ ∃ x, to' = s.to ++ [x] else s = psN gF (b.ops.take k) ∧ to' = s.to ∧ last = b.last ∧ gScan b.last b.ops ⟨[], []⟩ = gScan b.last (b.ops.drop k) s) ∧
  ρ = [(1, .cp b.cells 0), (2, .ptr b2 0), (3, vl), (4, vt), (5, .int .i64 last), (6, .bool en), (7, .int .i64 (k : Int))]) ⟨_, 0, _, _, ⟨[], []⟩, [], b.last, false, rfl, by omega, ⟨_, i1, i2⟩, ⟨rfl, rfl, rfl, rfl⟩, rfl⟩ ?_
 rintro m _ h2 ⟨k, vl, vt, s, to', last, en, rfl, hk, hr, hs, rfl⟩
 have fin : ∀ S L, gScan b.last b.ops ⟨[], []⟩ = (S, L) → ∀ T, (T = S.to ∨ ∃ x, T = S.to ++ [x]) → ∀ vl vt H, TwoO (Ab.upd h b2 ⟨[.nils, .nils, .nils, .int .i64 0], 0⟩) vl S.l vt T H →
   wpc Tryz.prog G Tryz.f42.ntmps C42_51 (retQ C42r (IsS (.agg b.gd.cells) h)) [(1, .cp b.cells 0), (2, .ptr b2 0), (3, vl), (4, vt), (5, .int .i64 L)] H := by
  intro S L hSL T hT vl vt H hr
  obtain ⟨m, hm, q1, q2⟩ := gScan_at b.ops b.last b.ops.length 0 (by omega)
  rw [List.drop_zero, List.take_zero] at q1 q2
  have e0 : psN gF [] = ⟨[], []⟩ := rfl
  rw [e0] at q1 q2
  have e2 : b.exit (gScan b.last b.ops ⟨[], []⟩).2 m = true := by
   rcases q2 with ⟨h1, h2⟩ | ⟨h1, h2, h3, h4⟩
   ·rw [h2, h1]
    have := chk_right hc
    simp only [IBk.right, Bool.and_eq_true] at this
    exact this.2
   ·rw [h4]
    exact opR_takes (hops _ h1) (.inl ⟨by omega, rfl⟩)
  obtain ⟨k1, k2⟩ := gd_exits hc hm q1 e2
  have hgd : b.gd = prB b.pcs (psN gF (b.ops.take m)).l b.exits (gScan b.last b.ops ⟨[], []⟩).2 (renE (psN gF (b.ops.take m)).to) := by unfold IBk.gd; rw [q1]
  have hll := psN_l gF (b.ops.take m)
  rw [List.length_take] at hll
  have htl : (psN gF (b.ops.take m)).to.length = m := by rw [psN_to, List.length_take]; omega
  have hlast := (exit_parts e2).1
  rw [hSL] at q1 e2 k2 hgd hlast
  simp only at q1 e2 k2 hgd hlast
  rw [← q1] at k1 k2 hgd hll htl
  have hag : AgV b m S.to S.to := ⟨htl, fun _ _ _ => rfl⟩
  have hE : ∀ n : Nat, namedX S.l L n = true → exOK T (b.exits.getD n IEx.zero) ∧ renE T (b.exits.getD n IEx.zero) = renE S.to (b.exits.getD n IEx.zero) := by
   intro n hn
   obtain ⟨i, p1, p2⟩ := k2 n hn
   have := (hag.exit p1 p2).1
   rcases hT with rfl | ⟨x, rfl⟩
   ·exact ⟨this, rfl⟩
   ·exact renE_more x this
  have hex : prB b.pcs S.l b.exits L (renE S.to) = prB b.pcs S.l b.exits L (renE T) := by
   unfold prB
   congr 1
   unfold keptE
   rw [List.map_map, List.map_map]
   refine List.map_congr_left fun n hn => ?_
   rw [List.mem_filter] at hn
   exact (hE n hn.2).2.symm
  rw [hgd, hex]
  have kX := fun h : Heap => rnamedX_spec (G := G) (h := h) (pcs := b.pcs) (l := S.l) (es := b.exits) (last := L) (to := T) (by omega) hs2 (fun k hk => getD_map (n := k) hs3) hlast (fun j hj => by
   obtain ⟨i, q1, q2, q3⟩ := k1 j hj
   refine ⟨?_, fun h4 => (exit_parts (q3 _ (.inl ⟨h4, rfl⟩))).1, fun h5 => (exit_parts (q3 _ (.inr ⟨h5, rfl⟩))).1⟩
   rw [q2, ren_code]
   have := kind_of (hops i (by omega))
   unfold kindN at this
   simp only at this
   (repeat' split at this) <;> first | omega | (cases this)) (fun n hn hm => (hE n hm).1)
  have hcl : [AV.ro (wds b.pcs) b.pcs.length, AV.ro (S.l.flatMap IOp.cells) S.l.length, exs b.exits, .int .i64 L] = IBk.cells ⟨b.pcs, S.l, b.exits, L⟩ := rfl
  simp only [push_cast, simprocAttr]
  refine hr.freeze fun h1 o1 => ?_
  simp only [push_cast, simprocAttr]
  refine wkQ.own o1 ?_
  simp only [push_cast, simprocAttr]
  rw [hcl]
  refine (kX _).to ?_
  simp only [push_cast, simprocAttr]
  exact sub_upd hb2 (.refl _)
 show wpc _ _ _ (.seq [1, 2, 3, 4, 5, 6, 7] C42_8 (.seq [1, 2, 3, 4, 5, 6, 7] (.block 1 (.seq [1, 2, 3, 4, 5, 6, 7, 8] C42_9 C42_39)) C42_42)) _ _ _
 by_cases hk2 : k < b.ops.length
 ·cases en with
  | true =>
   obtain ⟨h1, h3⟩ := hs
   have := fin s last h1 to' (.inr h3) vl vt h2 hr
   generalize C42_51 = Y at this ⊢
   simp only [push_cast, simprocAttr, hk2]
   exact this
  | false =>
   obtain ⟨rfl, rfl, rfl, hsc⟩ := hs
   clear fin
   have hdr : b.ops.drop k = b.ops.getD k IOp.zero :: b.ops.drop (k + 1) := by
    rw [List.drop_eq_getElem_cons hk2]; congr 1; simp [hk2]
   rw [hdr, gScan] at hsc
   have hst := psstep_eq gF (psN gF (b.ops.take k)) (b.ops.getD k IOp.zero)
   rw [← psN_succ gF b.ops k hk2] at hst hsc
   have htl : (psN gF (b.ops.take k)).to.length = k := by rw [psN_to, List.length_take]; omega
   have hll := psN_l gF (b.ops.take k)
   rw [List.length_take] at hll
   have hok := renOK_of (hops k hk2) htl
   have h6 := code_le6 (hops k hk2)
   have hi := psren_good (ps_inv gF_ok hc k (by omega)) (good_of (hops k hk2))
   have hkd := kind_of (hops k hk2)
   rw [← kind_ren (psN gF (b.ops.take k)).to] at hkd
   generalize psN gF (b.ops.take k) = f at *
   generalize hS1 : psN gF (b.ops.take (k + 1)) = f1 at *
   generalize hO : b.ops.getD k IOp.zero = o at *
   have gfe : gF f.l (ren f.to o) = if (ren f.to o).code = 6 ∧ gk f.l (ren f.to o) = 1 then ((f.l.length : Int), ren f.to o) else (-1, ren f.to o) := rfl
   have g2 : ∀ b6, h2 b6 = none → Ab.upd h b2 ⟨[.nils, .nils, .nils, .int .i64 0], 0⟩ b6 = none := fun b6 h => hr.none h
   have M := fun b6 (hb6 : h2 b6 = none) Q hq => rguard_head (G := G) (b2 := b2) (b8 := b6) (u := .cp b.cells 0) (w5 := .int .i64 b.last) (w6 := .bool false) (w := .int .i64 (k : Int)) (Q := Q) hr hb6 hok h6 fun H hH => by
    subst hH
    exact rguard_mid (hr.upd (x := ⟨(ren f.to o).cells, 0⟩) (.inl hb6)) (by omega) (by omega) (fun e6 => ⟨kind_guard e6 hkd, ⟨(hi.1 (.inr (.inr e6))).1.1, (hi.1 (.inr (.inr e6))).1.2.2.1⟩, (hi.1 (.inr (.inr e6))).2.1, (hi.1 (.inr (.inr e6))).2.2.2.1⟩) hq
   generalize ren f.to o = o1 at *
   generalize C42_39 = Y at M ⊢
   simp only [push_cast, simprocAttr, hk2, hO]
   intro b6 hb6
   refine M b6 hb6 _ fun ρ vl' vt' x H' l1 l2 l3 l4 l5 l6 l7 hr' => ?_
   obtain ⟨H1, s1, hr2⟩ := hr'.drop (g2 b6 hb6)
   have hhow : howN f.l o1 = if o1.code = 6 then gk f.l o1 else 0 := rfl
   have hrng := gk_rng f.l o1
   by_cases c2 : o1.code = 6 ∧ gk f.l o1 = 2
   ·have hh : howN f.l o1 = 2 := by rw [hhow, if_pos c2.1, c2.2]
    rw [if_pos c2] at hsc
    rw [hh] at l5 l6 hr2
    rw [if_pos rfl] at l5
    rw [decide_eq_true rfl] at l6
    rw [if_neg (by omega)] at hr2
    simp (disch := omega) only [push_cast, simprocAttr, wrap_i64, toNat_ofInt64, Nat.min_eq_left, Int.toNat_of_nonneg, l1, l2, l3, l4, l5, l6, l7]
    exact ⟨_, H1, by simp, s1, k + 1, vl', vt', f, _, o1.x, true, rfl, by omega, hr2, ⟨hsc, _, rfl⟩, rfl⟩
   ·rw [if_neg c2] at hsc
    have key : howN f.l o1 ≠ 2 ∧ (if howN f.l o1 = 0 then f.l ++ [o1] else f.l) = f1.l ∧ f.to ++ [(f.l.length : Int)] = f1.to := by
     rw [hhow, hst, gfe]
     by_cases c6 : o1.code = 6
     ·rw [if_pos c6]
      rcases hrng with q | q | q
      ·rw [q]; simp
      ·rw [q]; simp [c6]
      ·exact absurd ⟨c6, q⟩ c2
     ·rw [if_neg c6]; simp [c6]
    obtain ⟨y1, y2, y3⟩ := key
    rw [if_neg y1] at l5
    rw [decide_eq_false y1] at l6
    rw [y2, y3] at hr2
    simp (disch := omega) only [push_cast, simprocAttr, wrap_i64, toNat_ofInt64, Nat.min_eq_left, Int.toNat_of_nonneg, l1, l2, l3, l4, l5, l6, l7]
    exact ⟨_, H1, by simp; omega, s1, k + 1, vl', vt', f1, _, b.last, false, rfl, by omega, hr2, ⟨hS1.symm, rfl, rfl, hsc⟩, rfl⟩
 ·obtain rfl : k = b.ops.length := by omega
  have hSL : ∃ S, gScan b.last b.ops ⟨[], []⟩ = (S, last) ∧ S.l = s.l ∧ (to' = S.to ∨ ∃ x, to' = S.to ++ [x]) := by
   cases en with
   | true => exact ⟨s, hs.1, rfl, .inr hs.2⟩
   | false =>
    obtain ⟨rfl, rfl, rfl, hsc⟩ := hs
    rw [List.drop_length, gScan] at hsc
    exact ⟨_, hsc, rfl, .inl rfl⟩
  obtain ⟨S, h1, h3, h4⟩ := hSL
  rw [← h3] at hr
  have := fin S last h1 to' h4 vl vt h2 hr
  generalize C42_51 = Y at this ⊢
  simp only [push_cast, simprocAttr, hk2]
  exact this
end Go.Ab
end
