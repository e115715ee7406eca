/- Contracts of package record: the writer. -/
import Derived.Test.YtecfchkmmnphdaaR1
set_option linter.unusedSimpArgs false
set_option linter.unusedVariables false
namespace Go.Ab
open Go.Proofs
variable {G : Glo} {h : Heap}
/-- A writer: what it wrote, and what is past. -/
def WrAt (g : Heap) (b : Nat) (bs : List (BitVec 8)) (p : Past) (h : Heap) : Prop := g b = none ∧ ∃ v, Own 1 (upd g b ⟨v :: p.cells, 0⟩) v (bys bs) bs.length h
theorem WrAt.get {g b bs p} (hw : WrAt g b bs p h) : ∃ v, h b = some ⟨v :: p.cells, 0⟩ ∧ Own 1 (upd g b ⟨v :: p.cells, 0⟩) v (bys bs) bs.length h := by
  obtain ⟨hg, v, ho⟩ := hw
  exact ⟨v, ho.get (upd_same _ _ _), ho⟩
theorem WrAt.mk' {g b p v v'} {l : List (BitVec 8)} {h2 : Heap} (hg : g b = none) (ho : Own 1 (upd g b ⟨v :: p.cells, 0⟩) v' (bys l) l.length h2) : WrAt g b l p (upd h2 b ⟨v' :: p.cells, 0⟩) := by
  refine ⟨hg, v', ?_⟩
  have := ho.upd (b := b) (x := ⟨v' :: p.cells, 0⟩) (.inr ⟨_, upd_same _ _ _⟩)
  rwa [upd_upd] at this
theorem WrAt.push {g b bs p v v'} {x : BitVec 8} {h2 : Heap} (hg : g b = none) (ho : Own 1 (upd g b ⟨v :: p.cells, 0⟩) v' (bys bs ++ [.int .u8 x.toNat]) (bs.length + 1) h2) : WrAt g b (bs ++ [x]) p (upd h2 b ⟨v' :: p.cells, 0⟩) :=
  WrAt.mk' hg (by simpa [bys_app, bys] using ho)
theorem WrAt.lt {g b bs p} (hw : WrAt g b bs p h) : g b = none := hw.1
theorem WrAt.past {g b v} {p p' : Past} {l : List (BitVec 8)} (hg : g b = none) (ho : Own 1 (upd g b ⟨v :: p.cells, 0⟩) v (bys l) l.length h) : WrAt g b l p' (upd h b ⟨v :: p'.cells, 0⟩) := by
  refine ⟨hg, v, ?_⟩
  have := ho.upd (b := b) (x := ⟨v :: p'.cells, 0⟩) (.inr ⟨_, upd_same _ _ _⟩)
  rwa [upd_upd] at this
theorem own_past {g : Heap} {b : Nat} {v : AV} {p p' : Past} {l : List (BitVec 8)} (ho : Own 1 (upd g b ⟨v :: p.cells, 0⟩) v (bys l) l.length h) : Own 1 (Ab.upd g b ⟨v :: p'.cells, 0⟩) v (bys l) l.length (Ab.upd h b ⟨v :: p'.cells, 0⟩) := by
  have := ho.upd (b := b) (x := ⟨v :: p'.cells, 0⟩) (.inr ⟨_, upd_same _ _ _⟩)
  rwa [upd_upd] at this
theorem or128 (x : BitVec 64) : BitVec.setWidth 8 x ||| 128#8 = BitVec.ofNat 8 (x.toNat % 128 + 128) := by
  have key : ∀ y : BitVec 8, y ||| 128#8 = BitVec.ofNat 8 (y.toNat % 128 + 128) := by decide
  rw [key, BitVec.toNat_setWidth]
  congr 2
  omega
theorem wnum_spec {g b bs p} (hw : WrAt g b bs p h) (hl : bs.length ≤ 100000000) (n : BitVec 64) : Spec Try.prog G 75 [.ptr b 0, .int .u64 n.toNat] h (fun _ h' => WrAt g b (bs ++ num n.toNat) p h') := by
  refine Spec.walk C75ok rfl ?_
  simp only [push_cast, simprocAttr]
  refine lpc.rel [0, 1] (fun m ρ h' => ∃ (x : BitVec 64) (l : List (BitVec 8)), m = x.toNat ∧ WrAt g b l p h' ∧ l.length + (num x.toNat).length = bs.length + (num n.toNat).length ∧ l ++ num x.toNat = bs ++ num n.toNat ∧ ρ = [(0, .ptr b 0), (1, .int .u64 x.toNat)]) ⟨_, n, bs, rfl, hw, rfl, rfl, rfl⟩ ?_
  rintro m _ h' ⟨x, l, rfl, hl1, hl2, hl3, rfl⟩
  obtain ⟨v, hb, ho⟩ := hl1.get
  have hn := num_64 n
  simp only [push_cast, simprocAttr, hb]
  refine ⟨fun hx => ?_, fun hx => ?_⟩
  · have hx : ¬ x.toNat < 128 := by omega
    rw [or128]
    refine ho.app (m := 1) rfl (by omega) (by omega) fun v' h2 ho2 => ?_
    have hb2 := ho2.get (upd_same _ _ _)
    simp only [push_cast, simprocAttr, ho2.one, hb2]
    have hq : (x >>> 7).toNat = x.toNat / 128 := by simp [Nat.shiftRight_eq_div_pow]
    refine ⟨_, _, ?_, .refl _, x >>> 7, l ++ [BitVec.ofNat 8 (x.toNat % 128 + 128)], rfl, WrAt.push hl1.1 ho2, ?_, ?_, rfl⟩
    · rw [hq]; omega
    · rw [← hl2, hq, num_ge hx]; simp; omega
    · rw [← hl3, hq, num_ge hx]; simp
  · have hx : x.toNat < 128 := by omega
    refine ho.app (m := 1) rfl (by omega) (by omega) fun v' h2 ho2 => ?_
    have hb2 := ho2.get (upd_same _ _ _)
    simp only [push_cast, simprocAttr, ho2.one, hb2]
    rw [← hl3, num_lt hx, BitVec.ofNat_toNat]
    exact WrAt.push hl1.1 ho2
theorem wword_spec {g b bs p} (hw : WrAt g b bs p h) (hl : bs.length ≤ 100000000) (x : BitVec 32) : Spec Try.prog G 110 [.ptr b 0, .int .u32 x.toNat] h (fun _ h' => WrAt g b (bs ++ leB x 4) p h') := by
  obtain ⟨v, hb, ho⟩ := hw.get
  refine Spec.walk C110ok rfl ?_
  simp only [push_cast, simprocAttr]
  refine (Bytes_spec x 4 (by omega)).to ?_
  simp only [push_cast, simprocAttr, hb, byt, leB_len]
  refine ho.app (m := 4) (by simp [bys, leB_len]) (by omega) (by omega) fun v' h2 ho2 => ?_
  have hb2 := ho2.get (upd_same _ _ _)
  simp only [push_cast, simprocAttr, ho2.one, hb2]
  exact WrAt.mk' hw.1 (by simpa [bys_app, leB_len] using ho2)
theorem shl1 (s : Nat) (n : Nat) : BitVec.ofInt n (2 ^ s) = BitVec.ofNat n 1 <<< s := by
  have : ((2 : Int) ^ s) = ((2 ^ s : Nat) : Int) := by simp
  rw [this, BitVec.ofInt_natCast]
  apply BitVec.eq_of_toNat_eq
  simp only [BitVec.toNat_shiftLeft, BitVec.toNat_ofNat, Nat.shiftLeft_eq, Nat.mod_mul_mod, Nat.one_mul]
theorem changed_spec {g b bs p} (hw : WrAt g b bs p h) (now was : List (BitVec 32)) (o f : Nat) {c : Nat} (first caps : List AV) (mk : Nat → List (BitVec 8)) (hlen : now.length = was.length) (h32 : now.length ≤ 32) (hl : bs.length ≤ 10000000)
    (hcell : ∀ v k, k < was.length → (v :: p.cells)[o + k]? = some (AV.int .u32 (was.getD k 0#32).toNat)) (hmk : (mk (msk now was)).length ≤ 10) (hcall : callable Try.prog f)
    (hm : ∀ h, WrAt g b bs p h → Spec Try.prog G f (first ++ [.int .u64 (BitVec.ofNat 64 (msk now was)).toNat] ++ caps) h (fun _ h' => WrAt g b (bs ++ mk (msk now was)) p h')) :
    Spec Try.prog G 98 [.ptr b 0, .ro (wds now) now.length, .sl b o was.length c, .fn f first caps] h (fun _ h' => WrAt g b (bs ++ mk (msk now was) ++ chg now was) p h') := by
  obtain ⟨v0, hb0, ho0⟩ := hw.get
  have hcell2 : ∀ v k (hk : k < was.length), (v :: p.cells)[o + k]? = some (AV.int .u32 (was[k]).toNat) := by
    intro v k hk
    rw [hcell v k hk, List.getD_eq_getElem?_getD, List.getElem?_eq_getElem hk]
    rfl
  refine Spec.walk C98ok rfl ?_
  simp only [push_cast, simprocAttr]
  refine lpc.rel [0, 1, 2, 3, 8, 12, 13] (fun m ρ h' => ∃ k, m = now.length - k ∧ k ≤ now.length ∧ h' = h ∧ ρ = [(0, .ptr b 0), (1, .ro (wds now) now.length), (2, .sl b o was.length c), (3, .fn f first caps), (8, .int .u64 (BitVec.ofNat 64 (msk (now.take k) (was.take k))).toNat), (12, .int .i64 now.length), (13, .int .i64 k)]) ⟨_, 0, rfl, by omega, rfl, by simp [msk]; rfl⟩ ?_
  rintro m _ _ ⟨k, rfl, hk, rfl, rfl⟩
  simp only [push_cast, simprocAttr, hb0]
  refine ⟨fun hk2 => ?_, fun hk2 => ?_⟩
  · have hk3 : k < was.length := by omega
    simp (disch := omega) only [push_cast, simprocAttr, wrap_i64, toNat_ofInt64, Nat.min_eq_left, Int.toNat_of_nonneg, hb0, hk2, hk3, hcell _ k hk3]
    have hlt := msk_lt (now.take k) (was.take k)
    rw [List.length_take, Nat.min_eq_left hk] at hlt
    have hms := msk_snoc (now.take k) (was.take k) (now.getD k 0#32) (was.getD k 0#32) (by simp; omega)
    rw [← take_snoc now k hk2, ← take_snoc was k hk3, List.length_take, Nat.min_eq_left hk] at hms
    refine ⟨fun he => ?_, fun he => ?_⟩
    · have hne : now.getD k 0#32 ≠ was.getD k 0#32 := by simpa using he
      rw [if_neg hne] at hms
      have e : BitVec.ofNat 64 (msk (now.take k) (was.take k)) ||| BitVec.ofInt 64 (1 * 2 ^ k) = BitVec.ofNat 64 (msk (now.take (k + 1)) (was.take (k + 1))) := by
        rw [Int.one_mul, shl1, or_shl _ _ _ hlt, hms, Nat.mul_one]
      rw [e]
      exact ⟨_, _, by omega, .refl _, k + 1, rfl, by omega, rfl, rfl⟩
    · have heq : now.getD k 0#32 = was.getD k 0#32 := by simpa using he
      rw [if_pos heq] at hms
      exact ⟨_, _, by omega, .refl _, k + 1, rfl, by omega, rfl, by rw [hms]; rfl⟩
  · obtain rfl : k = now.length := by omega
    rw [List.take_length, hlen, List.take_length]
    refine ⟨hcall, (hm _ hw).mono ?_⟩
    intro r h2 hw2
    simp only [push_cast, simprocAttr]
    refine lpc.rel [0, 1, 2, 35, 36] (fun m ρ h' => ∃ k, m = now.length - k ∧ k ≤ now.length ∧ WrAt g b (bs ++ mk (msk now was) ++ chg (now.take k) (was.take k)) p h' ∧ ρ = [(0, .ptr b 0), (1, .ro (wds now) now.length), (2, .sl b o was.length c), (35, .int .i64 now.length), (36, .int .i64 k)]) ⟨_, 0, rfl, by omega, by simpa [chg] using hw2, by simp [hlen]; rfl⟩ ?_
    rintro m _ h3 ⟨k, rfl, hk, hw3, rfl⟩
    obtain ⟨v3, hb3, ho3⟩ := hw3.get
    simp only [push_cast, simprocAttr, hb3]
    refine ⟨fun hk2 => ?_, fun hk2 => ?_⟩
    · have hk3 : k < was.length := by omega
      have hcl := chg_len (now.take k) (was.take k)
      rw [List.length_take, Nat.min_eq_left hk] at hcl
      have hch := chg_snoc (now.take k) (was.take k) (now.getD k 0#32) (was.getD k 0#32) (by simp; omega)
      rw [← take_snoc now k hk2, ← take_snoc was k hk3] at hch
      simp (disch := omega) only [push_cast, simprocAttr, wrap_i64, toNat_ofInt64, Nat.min_eq_left, Int.toNat_of_nonneg, hb3, hk2, hk3, hcell _ k hk3]
      refine ⟨fun he => ?_, fun he => ?_⟩
      · have hne : now.getD k 0#32 ≠ was.getD k 0#32 := by simpa using he
        rw [if_neg hne] at hch
        refine (wword_spec hw3 (by simp; omega) (now.getD k 0#32)).mono ?_
        intro r4 h4 hw4
        simp (disch := omega) only [push_cast, simprocAttr, wrap_i64, toNat_ofInt64, Nat.min_eq_left, Int.toNat_of_nonneg]
        exact ⟨_, _, by omega, .refl _, k + 1, rfl, by omega, by rw [hch, ← List.append_assoc]; exact hw4, rfl⟩
      · have heq : now.getD k 0#32 = was.getD k 0#32 := by simpa using he
        rw [if_pos heq, List.append_nil] at hch
        exact ⟨_, _, by omega, .refl _, k + 1, rfl, by omega, by rw [hch]; exact hw3, rfl⟩
    · obtain rfl : k = now.length := by omega
      rw [List.take_length, hlen, List.take_length] at hw3
      exact hw3
theorem changed_spec' {g b bs p} (hw : WrAt g b bs p h) (now was : List (BitVec 32)) (nn o c f : Nat) (first caps : List AV) (mk : Nat → List (BitVec 8)) (hn : now.length = nn) (hn' : was.length = nn) (h32 : nn ≤ 32) (hl : bs.length ≤ 10000000)
    (hcell : ∀ v k, k < nn → (v :: p.cells)[o + k]? = some (AV.int .u32 (was.getD k 0#32).toNat)) (hmk : ∀ m, m < 2 ^ nn → (mk m).length ≤ 10) (hcall : callable Try.prog f)
    (hm : ∀ h, WrAt g b bs p h → Spec Try.prog G f (first ++ [.int .u64 (BitVec.ofNat 64 (msk now was)).toNat] ++ caps) h (fun _ h' => WrAt g b (bs ++ mk (msk now was)) p h')) :
    Spec Try.prog G 98 [.ptr b 0, .ro (wds now) nn, .sl b o nn c, .fn f first caps] h (fun _ h' => WrAt g b (bs ++ mk (msk now was) ++ chg now was) p h') := by
  have := changed_spec (c := c) (h := h) hw now was o f first caps mk (by omega) (by omega) hl (by rw [hn']; exact hcell) (by
    have := msk_lt now was
    rw [hn] at this
    exact hmk _ this) hcall hm
  rwa [hn, hn'] at this
end Go.Ab
