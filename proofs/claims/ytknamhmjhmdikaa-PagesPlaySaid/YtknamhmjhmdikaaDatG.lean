/- What is known of data of a given type. -/
import Derived.Test.YtknamhmjhmdikaaAb11
import Derived.Test.YtknamhmjhmdikaaWd
set_option linter.unusedVariables false
namespace Go.Ab
theorem dat_i {k : IntKind} {l : List AV} (h : Dat (.i k) l) : ∃ n, l = [.int k n] ∧ k.min ≤ n ∧ n ≤ k.max := by
  cases h with
  | i k n h => exact ⟨n, rfl, h⟩
theorem dat_b {l : List AV} (h : Dat .b l) : ∃ x, l = [.bool x] := by
  cases h with
  | b x => exact ⟨x, rfl⟩
theorem dat_s {l : List AV} (h : Dat .s l) : ∃ x, l = [.str x] ∧ x.size ≤ maxLen := by
  cases h with
  | s x h => exact ⟨x, rfl, h⟩
theorem dat_list {α : Type} {e : TD} (f : α → List AV) (ok : α → Prop) (one : ∀ l, Dat e l → ∃ x, ok x ∧ l = f x) : ∀ (ls : List (List AV)), (∀ l ∈ ls, Dat e l) →
    ∃ xs : List α, xs.length = ls.length ∧ ls.flatten = xs.flatMap f ∧ ∀ x ∈ xs, ok x := by
  intro ls
  induction ls with
  | nil => intro _; exact ⟨[], rfl, rfl, fun x h => by cases h⟩
  | cons l r ih =>
    intro h
    obtain ⟨x, hx, rfl⟩ := one l (h l (by simp))
    obtain ⟨xs, h1, h2, h3⟩ := ih fun l hl => h l (by simp [hl])
    refine ⟨x :: xs, by simp [h1], by simp [h2], fun y hy => ?_⟩
    rcases List.mem_cons.1 hy with rfl | hy
    · exact hx
    · exact h3 y hy
/-- A struct's fields, one after another. -/
theorem dat_st {fs : List TD} {l : List AV} (h : Dat (.st fs) l) : ∃ ls : List (List AV), ls.length = fs.length ∧ l = ls.flatten ∧ ∀ (j : Nat) f l, fs[j]? = some f → ls[j]? = some l → Dat f l := by
  cases h with
  | st fs ls hl h => exact ⟨ls, hl, rfl, h⟩
theorem dat_st_nil {l : List AV} (h : Dat (.st []) l) : l = [] := by
  obtain ⟨ls, h1, rfl, _⟩ := dat_st h
  rw [List.eq_nil_of_length_eq_zero h1]; rfl
theorem dat_st_cons {f : TD} {fs : List TD} {l : List AV} (h : Dat (.st (f :: fs)) l) : ∃ a b, l = a ++ b ∧ Dat f a ∧ Dat (.st fs) b := by
  obtain ⟨ls, h1, rfl, h2⟩ := dat_st h
  cases ls with
  | nil => simp at h1
  | cons a r => exact ⟨a, r.flatten, rfl, h2 0 f a rfl rfl, .st fs r (by simpa using h1) fun j f l x y => h2 (j + 1) f l (by simpa using x) (by simpa using y)⟩
theorem dat_u8 {l : List AV} (h : Dat (.i .u8) l) : ∃ x : BitVec 8, l = [.int .u8 (x.toNat : Int)] := by
  obtain ⟨n, rfl, h1, h2⟩ := dat_i h
  simp [IntKind.min, IntKind.max, IntKind.signed, IntKind.bits] at h1 h2
  refine ⟨BitVec.ofNat 8 n.toNat, ?_⟩
  rw [BitVec.toNat_ofNat, Nat.mod_eq_of_lt (by omega), Int.toNat_of_nonneg h1]
theorem dat_u16 {l : List AV} (h : Dat (.i .u16) l) : ∃ x : BitVec 16, l = [.int .u16 (x.toNat : Int)] := by
  obtain ⟨n, rfl, h1, h2⟩ := dat_i h
  simp [IntKind.min, IntKind.max, IntKind.signed, IntKind.bits] at h1 h2
  refine ⟨BitVec.ofNat 16 n.toNat, ?_⟩
  rw [BitVec.toNat_ofNat, Nat.mod_eq_of_lt (by omega), Int.toNat_of_nonneg h1]
theorem dat_u32 {l : List AV} (h : Dat (.i .u32) l) : ∃ x : BitVec 32, l = [.int .u32 (x.toNat : Int)] := by
  obtain ⟨n, rfl, h1, h2⟩ := dat_i h
  simp [IntKind.min, IntKind.max, IntKind.signed, IntKind.bits] at h1 h2
  refine ⟨BitVec.ofNat 32 n.toNat, ?_⟩
  rw [BitVec.toNat_ofNat, Nat.mod_eq_of_lt (by omega), Int.toNat_of_nonneg h1]
theorem dat_u64 {l : List AV} (h : Dat (.i .u64) l) : ∃ x : BitVec 64, l = [.int .u64 (x.toNat : Int)] := by
  obtain ⟨n, rfl, h1, h2⟩ := dat_i h
  simp [IntKind.min, IntKind.max, IntKind.signed, IntKind.bits] at h1 h2
  refine ⟨BitVec.ofNat 64 n.toNat, ?_⟩
  rw [BitVec.toNat_ofNat, Nat.mod_eq_of_lt (by omega), Int.toNat_of_nonneg h1]
theorem dat_i64 {l : List AV} (h : Dat (.i .i64) l) : ∃ n : Int, l = [.int .i64 n] ∧ -9223372036854775808 ≤ n ∧ n ≤ 9223372036854775807 := by
  obtain ⟨n, rfl, h1, h2⟩ := dat_i h
  simp [IntKind.min, IntKind.max, IntKind.signed, IntKind.bits] at h1 h2
  exact ⟨n, rfl, h1, h2⟩
theorem flatMap_one {α : Type} (f : α → AV) (l : List α) : (l.flatMap fun x => [f x]) = l.map f := by
  induction l with
  | nil => rfl
  | cons a r ih => simp [ih]
theorem dat_bytes {l : List AV} (h : Dat (.sl (.i .u8)) l) : ∃ xs : List (BitVec 8), xs.length ≤ maxLen ∧ l = [byt xs] := by
  cases h with
  | sl e ls hl h =>
    obtain ⟨xs, h1, h2, _⟩ := dat_list (fun x : BitVec 8 => [AV.int .u8 (x.toNat : Int)]) (fun _ => True) (fun l hl => by obtain ⟨x, rfl⟩ := dat_u8 hl; exact ⟨x, trivial, rfl⟩) ls h
    rw [flatMap_one] at h2
    exact ⟨xs, by omega, by rw [h2, ← h1]; rfl⟩
theorem dat_words {l : List AV} (h : Dat (.sl (.i .u32)) l) : ∃ xs : List (BitVec 32), xs.length ≤ maxLen ∧ l = [.ro (wds xs) xs.length] := by
  cases h with
  | sl e ls hl h =>
    obtain ⟨xs, h1, h2, _⟩ := dat_list (fun x : BitVec 32 => [AV.int .u32 (x.toNat : Int)]) (fun _ => True) (fun l hl => by obtain ⟨x, rfl⟩ := dat_u32 hl; exact ⟨x, trivial, rfl⟩) ls h
    rw [flatMap_one] at h2
    exact ⟨xs, by omega, by rw [h2, ← h1]; rfl⟩
theorem dat_ar32 {n : Nat} {l : List AV} (h : Dat (.ar n (.i .u32)) l) : ∃ xs : List (BitVec 32), xs.length = n ∧ l = wds xs := by
  cases h with
  | ar n e ls hl h =>
    obtain ⟨xs, h1, h2, _⟩ := dat_list (fun x : BitVec 32 => [AV.int .u32 (x.toNat : Int)]) (fun _ => True) (fun l hl => by obtain ⟨x, rfl⟩ := dat_u32 hl; exact ⟨x, trivial, rfl⟩) ls h
    rw [flatMap_one] at h2
    exact ⟨xs, by omega, h2⟩
/-- A struct's fields, cell by cell. -/
theorem dat_sl {α : Type} {e : TD} (f : α → List AV) (ok : α → Prop) (one : ∀ l, Dat e l → ∃ x, ok x ∧ l = f x) {l : List AV} (h : Dat (.sl e) l) : ∃ xs : List α, (∀ x ∈ xs, ok x) ∧ xs.length ≤ maxLen ∧ l = [.ro (xs.flatMap f) xs.length] := by
  cases h with
  | sl e ls hl h =>
    obtain ⟨xs, h1, h2, h3⟩ := dat_list f ok one ls h
    exact ⟨xs, h3, by omega, by rw [h2, ← h1]⟩
end Go.Ab
