/- Items along a row or a path: the program's. -/
import Derived.Test.YtglanajcilfpcaaDoorH15
set_option linter.unusedSimpArgs false
set_option linter.unusedVariables false
set_option maxRecDepth 10000
namespace Go.Ab
open Go.Proofs
variable {G : Glo} {h : Heap}
def its (l : List IIt) : List AV := l.flatMap IIt.cells
theorem its_len (l : List IIt) : (its l).length = l.length * 8 := by
  induction l with
  | nil => rfl
  | cons x r ih => simp only [its, List.flatMap_cons, List.length_append, List.length_cons] at ih ⊢; rw [ih, (it_at x).1]; omega
def del2 (h : Heap) (b : Nat) : Heap := fun c => if c = b then none else h c
/-- Other blocks written: the row is still one's own. -/
theorem Own.to {sz n : Nat} {g H H2 : Heap} {v : AV} {cells : List AV} (ho : Own sz g v cells n H) (hs : ∀ b, g b = none → H b ≠ none → H2 b = H b) (hk : ∀ d, g d ≠ none → H2 d ≠ none) : ∃ g2, Own sz g2 v cells n H2 ∧ (∀ d, g d ≠ none → g2 d = H2 d) ∧ ∀ d, g2 d = none ∨ g2 d = H2 d := by
  cases ho with
  | nil => exact ⟨H2, .nil, fun _ _ => rfl, fun _ => .inr rfl⟩
  | row b n cap pre cells sp hb hl hc =>
    have h1 := hs b hb (by rw [upd_same]; simp)
    rw [upd_same] at h1
    refine ⟨del2 H2 b, ?_, fun d hd => ?_, fun d => ?_⟩
    · have e : H2 = Ab.upd (del2 H2 b) b ⟨pre ++ cells, sp⟩ := by
        funext c
        simp only [upd_at, del2]
        split
        · rename_i e; rw [e, h1]
        · rfl
      have := Own.row (sz := sz) (g := del2 H2 b) b n cap pre cells sp (by simp [del2]) hl hc
      rw [← e] at this
      exact this
    · have : d ≠ b := fun e => hd (e ▸ hb)
      simp [del2, this]
    · by_cases e : d = b
      · left; simp [del2, e]
      · right; simp [del2, e]
section
variable {l : Pl} {M : IRam}
theorem along_spec (hG : GF G) {fn : Nat} {caps : List AV} {own : Nat → Prop} {St : Heap → List Bool → Prop} {f : IIt → Nat → List Bool → Bool × IIt × List Bool} (hOn : OnOk Tryd.prog G fn caps own St f)
    (hr : RamAt h l M) (hdis : ∀ d, own d → ¬ l.has d) (hfull : ∀ d, own d → h d ≠ none) (T : List Bool) (hs : St h T) (pc : BitVec 32) (most : Int) :
    Spec Tryd.prog G 27 [.ptr l.p 0, .int .u32 pc.toNat, .int .i64 most, .fn fn [] caps] h
      (fun r H' => ∃ g n, n = (walkN f M (min most 32).toNat pc T).length ∧ Own 8 g r (its (walkN f M (min most 32).toNat pc T)) n H' ∧ ∀ d, h d ≠ none → ¬ own d → g d = h d) := by
  obtain ⟨hcl, hst, hst0, hon⟩ := hOn
  obtain ⟨F, hF⟩ : ∃ F, (min most 32).toNat = F := ⟨_, rfl⟩
  rw [hF]
  refine Spec.walk C27ok rfl ?_
  simp only [push_cast, simprocAttr]
  refine lpc.rel [0, 1, 2, 3, 9] (fun m ρ H' => ∃ (out : List IIt) (v : AV) (g : Heap) (pc' : BitVec 32) (T' : List Bool), m = F - out.length ∧ out.length ≤ F ∧ Own 8 g v (its out) out.length H' ∧ RamAt g l M ∧ St g T' ∧ (∀ d, h d ≠ none → ¬ own d → g d = h d) ∧ (∀ d, own d → g d ≠ none) ∧
    walkN f M F pc T = out ++ walkN f M (F - out.length) pc' T' ∧
    ρ = [(0, .ptr l.p 0), (1, .int .u32 pc'.toNat), (2, .int .i64 most), (3, .fn fn [] caps), (9, v)]) ⟨_, [], .nils, h, pc, T, rfl, by simp, .nil, hr, hs, fun _ _ _ => rfl, hfull, rfl, rfl⟩ ?_
  rintro m _ H' ⟨out, v, g, pc', T', rfl, hle, ho, hrg, hsg, hold, hof, hw, rfl⟩
  have hal := ho.alen
  have hrH : RamAt H' l M := ⟨hrg.ok, hrg.wf, ho.get hrg.hp, ho.get hrg.hb, ho.get hrg.hw, ho.get hrg.hg⟩
  have hmin : min most 32 = if 32 < most then 32 else most := by split <;> omega
  simp only [push_cast, simprocAttr, hal]
  refine ⟨fun hlt => ?_, fun hge => ?_⟩
  · have hlt2 : out.length < F := by rw [← hF, hmin]; omega
    obtain ⟨k, hk⟩ : ∃ k, F - out.length = k + 1 := ⟨F - out.length - 1, by omega⟩
    rw [hk] at hw
    refine (at2_spec hG hrH pc').to ?_
    have hok : (decide (askedN M.b.length pc' 4 = 0) && canN (wordN M pc') (kindK (wordN M pc'))) = okAt M pc' := rfl
    rw [hok]
    have hn58 := kindK_lt (wordN M pc')
    have hop : (itemN (wordN M pc') pc').i.op = kindK (wordN M pc') := by rw [itemN, dec_laid]; rfl
    have hwk : walkN f M (k + 1) pc' T' = if okAt M pc' then (f (itemN (wordN M pc') pc') (kindK (wordN M pc')) T').2.1 :: (if (f (itemN (wordN M pc') pc') (kindK (wordN M pc')) T').1 then walkN f M k (f (itemN (wordN M pc') pc') (kindK (wordN M pc')) T').2.1.next (f (itemN (wordN M pc') pc') (kindK (wordN M pc')) T').2.2 else []) else [] := rfl
    rw [hwk] at hw
    clear hwk
    generalize itemN (wordN M pc') pc' = x at *
    generalize kindK (wordN M pc') = K at *
    have xl := (it_at x).1
    have xa : partOf x.cells 0 (some 8) = some (.agg x.cells) := rfl
    have xs : splice [AV.int .u32 0, .int .i64 0, .int .i64 0, .int .i64 0, .int .i64 0, .int .u32 0, .int .i64 0, .int .u32 0] 0 x.cells = x.cells := splice_all' rfl
    simp only [push_cast, simprocAttr, hal, xl, xs]
    intro c10 hc10
    cases hO : okAt M pc' with
    | false =>
      rw [hO, if_neg (by simp), List.append_nil] at hw
      simp only [push_cast, simprocAttr]
      refine ⟨upd g c10 ⟨x.cells, 0⟩, out.length, by rw [hw], by rw [hw]; exact ho.upd (.inl hc10), fun d h1 h2 => ?_⟩
      have h3 := hold d h1 h2
      have : d ≠ c10 := fun e => by
        cases hg : g d with
        | none => rw [hg] at h3; exact h1 h3.symm
        | some y => have := ho.get hg; rw [e, hc10] at this; cases this
      rw [upd_ne this]; exact h3
    | true =>
      rw [hO, if_pos rfl] at hw
      simp only [push_cast, simprocAttr]
      have hno : ¬ own c10 := fun e => by
        have h1 := hof _ e
        cases hg : g c10 with
        | none => exact h1 hg
        | some y => have := ho.get hg; rw [hc10] at this; cases this
      have hst1 : St (upd H' c10 ⟨x.cells, 0⟩) T' := hst _ _ _ hsg fun d hd => by
        rw [upd_ne (show d ≠ c10 by rintro rfl; exact hno hd)]
        cases hg : g d with
        | none => exact absurd hg (hof d hd)
        | some y => exact ho.get hg
      refine ⟨hcl, (hon _ c10 x K T' hst1 hno (upd_same _ _ _) hop hn58).mono ?_⟩
      rintro r H2 ⟨rfl, hx2, hs2, hd2⟩
      generalize f x K T' = y at *
      obtain ⟨y1, y2, y3⟩ := y
      simp only at hx2 hs2 hw ⊢
      have ho1 : Own 8 (upd g c10 ⟨x.cells, 0⟩) v (its out) out.length (upd H' c10 ⟨x.cells, 0⟩) := ho.upd (.inl hc10)
      obtain ⟨g2, ho2, hg2, hg3⟩ := Own.to ho1 (H2 := H2) (fun b hb hn => by
          by_cases e : b = c10
          · rw [e, upd_same] at hb; cases hb
          · refine hd2 b e fun ho => ?_
            rw [upd_ne e] at hb
            exact hof b ho hb) (fun d hd => by
          by_cases e : d = c10
          · rw [e, hx2]; simp
          · by_cases hw : own d
            · exact hst0 _ _ hs2 d hw
            · rw [hd2 d e hw]
              intro hz
              have := Own.sub ho1
              cases hu : upd g c10 ⟨x.cells, 0⟩ d with
              | none => exact hd hu
              | some y => rw [this d y hu] at hz; cases hz)
      have gold : ∀ d, d ≠ c10 → ¬ own d → g d ≠ none → g2 d = g d := fun d h1 h2 h3 => by
        rw [hg2 d (by rw [upd_ne h1]; exact h3), hd2 d h1 h2, upd_ne h1]
        cases hg : g d with
        | none => exact absurd hg h3
        | some y => exact ho.get hg
      have gown : ∀ d, own d → g2 d = H2 d := fun d h1 => hg2 d (by rw [upd_ne (show d ≠ c10 by rintro rfl; exact hno h1)]; exact hof d h1)
      have hcg : g c10 = none := by
        cases hg : g c10 with
        | none => rfl
        | some y => have := ho.get hg; rw [hc10] at this; cases this
      have hrg2 : RamAt g2 l M := by
        have hh : ∀ d, l.has d → g2 d = g d := fun d hd => gold d (fun e => by
            have := hrg.not hcg
            exact this (e ▸ hd)) (fun e => hdis d e hd) (fun e => hrg.not e hd)
        exact ⟨hrg.ok, hrg.wf, by rw [hh _ (.inl rfl)]; exact hrg.hp, by rw [hh _ (.inr (.inl rfl))]; exact hrg.hb, by rw [hh _ (.inr (.inr (.inl rfl)))]; exact hrg.hw, by rw [hh _ (.inr (.inr (.inr rfl)))]; exact hrg.hg⟩
      have hsg2 : St g2 y3 := hst _ _ _ hs2 gown
      have hold2 : ∀ d, h d ≠ none → ¬ own d → g2 d = h d := fun d h1 h2 => by
        have h3 := hold d h1 h2
        rw [gold d (fun e => by rw [e, hcg] at h3; exact h1 (e ▸ h3.symm)) h2 (by rw [h3]; exact h1), h3]
      have hof2 : ∀ d, own d → g2 d ≠ none := fun d hd => hst0 _ _ hsg2 d hd
      have gc : g2 c10 = some ⟨y2.cells, 0⟩ := by rw [hg2 c10 (by rw [upd_same]; simp), hx2]
      have yl := (it_at y2).1
      have y7 := (it_at y2).2.2.2.2.1
      have hsn : its (out ++ [y2]) = its out ++ y2.cells := by simp [its]
      have hln : (out ++ [y2]).length = out.length + 1 := by simp
      have ya : partOf y2.cells 0 (some 8) = some (.agg y2.cells) := rfl
      simp only [push_cast, simprocAttr, hx2, yl, ya]
      refine Own.app ho2 (m := 1) yl (by omega) (by omega) fun v3 h3 ho3 => ?_
      rw [← hsn] at ho3
      have hc3 := ho3.get gc
      cases y1 with
      | false =>
        rw [if_neg (by simp)] at hw
        simp only [push_cast, simprocAttr, hc3, yl, y7, ho3.one]
        exact ⟨g2, out.length + 1, by rw [hw]; simp, by rw [hw]; exact ho3, hold2⟩
      | true =>
        rw [if_pos rfl] at hw
        simp only [push_cast, simprocAttr, hc3, yl, y7, ho3.one]
        exact ⟨_, _, by omega, .refl _, out ++ [y2], v3, g2, y2.next, y3, rfl, by omega, by rw [hln]; exact ho3, hrg2, hsg2, hold2, hof2, by rw [hw, show F - (out ++ [y2]).length = k by omega]; simp, rfl⟩
  · have hz : F - out.length = 0 := by rw [← hF, hmin]; omega
    rw [hz, walkN, List.append_nil] at hw
    exact ⟨g, out.length, by rw [hw], by rw [hw]; exact ho, hold⟩
end
end Go.Ab
