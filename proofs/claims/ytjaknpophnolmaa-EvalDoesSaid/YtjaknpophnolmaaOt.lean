/- A region of open order by what holds behind each of its operations, whichever were ahead. -/
import Derived.Test.YtjaknpophnolmaaWd
set_option linter.unusedSimpArgs false
set_option linter.unusedVariables false
namespace Go.Ab
def altB : OT → Bool → Bool
  | .nil, _ => true
  | _, b => b
/-- A tree's ways, held against what must have been ahead of each. -/
def wlk (es R R2 : List Nat) (D : Nat → List Nat) : OT → List Nat → Bool
  | .nil, pre => es.all pre.contains
  | .r i t, pre => es.contains i && !pre.contains i && (D i).all pre.contains && wlk es R R2 D t (i :: pre)
  | .e i fl t alt, pre => (es.contains i && !pre.contains i && (D i).all pre.contains && (fl.all fun j => R.contains j || (R2.contains j && pre.contains j)) && wlk es R R2 D t (i :: pre)) && altB alt (wlk es R R2 D alt pre)
theorem dwpT_inv {P : Program} {G : Glo} {ops : List AOp} {es R R2 : List Nat} {D : Nat → List Nat} {I : List Nat → Env → Heap → Prop} {Q : Env → Heap → Prop}
    (hs : ∀ i ∈ es, ∀ (fl pre : List Nat) (ρ : Env) (h : Heap) (K : Env → Heap → Prop), (∀ j ∈ fl, j ∈ R ∨ (j ∈ R2 ∧ j ∈ pre)) → i ∉ pre → (∀ j ∈ D i, j ∈ pre) → I pre ρ h → (∀ ρ' h', I (i :: pre) ρ' h' → K ρ' h') → bindO ops[i]? fun o => dst P G o ρ h (stbC G ops fl ρ) K)
    (hq : ∀ pre ρ h, (∀ j ∈ es, j ∈ pre) → I pre ρ h → Q ρ h) : ∀ (t : OT) (pre : List Nat) (ρ : Env) (h : Heap), wlk es R R2 D t pre = true → I pre ρ h → dwpT P G ops Q t ρ h := by
  intro t
  induction t with
  | nil =>
    intro pre ρ h hw hI
    simp only [wlk, List.all_eq_true, List.contains_iff_mem] at hw
    rw [dwpT_nil]
    exact hq pre ρ h hw hI
  | r i t ih =>
    intro pre ρ h hw hI
    simp only [wlk, Bool.and_eq_true, Bool.not_eq_true', List.all_eq_true, List.contains_iff_mem] at hw
    obtain ⟨⟨⟨w1, w2⟩, w3⟩, w4⟩ := hw
    have w2' : i ∉ pre := fun q => by rw [← List.contains_iff_mem, w2] at q; cases q
    have := hs i w1 [] pre ρ h (dwpT P G ops Q t) (fun j q => by cases q) w2' w3 hI fun ρ' h' q => ih _ ρ' h' w4 q
    rw [dwpT_r]
    exact this
  | e i fl t alt ih1 ih2 =>
    intro pre ρ h hw hI
    simp only [wlk, Bool.and_eq_true, Bool.not_eq_true', List.all_eq_true, List.contains_iff_mem, Bool.or_eq_true] at hw
    obtain ⟨⟨⟨⟨⟨w1, w2⟩, w3⟩, w5⟩, w4⟩, w6⟩ := hw
    have w2' : i ∉ pre := fun q => by rw [← List.contains_iff_mem, w2] at q; cases q
    have := hs i w1 fl pre ρ h (dwpT P G ops Q t) w5 w2' w3 hI fun ρ' h' q => ih1 _ ρ' h' w4 q
    rw [dwpT_e]
    refine ⟨this, ?_⟩
    cases alt with
    | nil => rw [altC_nil]; trivial
    | r j u => exact ih2 pre ρ h w6 hI
    | e j fl' u a' => rw [altC_e]; exact ih2 pre ρ h w6 hI
def opsOf : ACode → List AOp
  | .dregt ops _ _ => ops
  | _ => []
def edgOf : ACode → List (List Nat)
  | .dregt _ es _ => es
  | _ => []
theorem stb_of {G : Glo} {ops : List AOp} {ρ : Env} {h : Heap} {S : List Nat} (hp : ∀ j ∈ S, bindO ops[j]? fun o => pend G o ρ h) : ∀ fl : List Nat, (∀ j ∈ fl, j ∈ S) → stb G ops ρ h fl := by
  intro fl
  induction fl with
  | nil => intro _; trivial
  | cons j r ih =>
    intro hf
    refine ⟨?_, ih fun i hi => hf i (by simp [hi])⟩
    have := hp j (hf j (by simp))
    revert this
    unfold bindO
    cases ops[j]? <;> exact id
end Go.Ab
