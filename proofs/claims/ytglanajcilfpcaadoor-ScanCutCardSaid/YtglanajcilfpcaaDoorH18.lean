/- Rows and paths: the document's. -/
import Derived.Test.YtglanajcilfpcaaDoorH20
set_option linter.unusedSimpArgs false
set_option linter.unusedVariables false
set_option maxRecDepth 10000
namespace Go.Ab
open Go.Proofs
variable {G : Glo} {h : Heap}
theorem le_tr {a b c : AV} {h h1 h2 : Heap} (x : Le a h b h1) (y : Le b h1 c h2) : Le a h c h2 := by
  intro w v hw hr
  obtain ⟨p1, p2, p3⟩ := x w v hw hr
  obtain ⟨q1, q2, q3⟩ := y w v p1 p2
  exact ⟨q1, q2, fun b hb => q3 b (p3 b hb)⟩
theorem le_less {r : AV} {h g : Heap} (hs : Sub g h) : Le r h r g := by
  intro w v hw hr
  obtain ⟨l1, l2⟩ := hrep_less hw hs
  exact ⟨l1, hr.keep ⟨Nat.le_refl _, fun c _ hn => ⟨fun hd => hn fun e => hd (hs.none e), rfl⟩⟩, fun c hc => hs.none hc⟩
def onN (rows : Bool) : IIt → Nat → List Bool → Bool × IIt × List Bool := if rows then rowOn else pathOn
theorem item_at (M : IRam) (pc : BitVec 32) {I : IIn} {n : Nat} (hI : decI (wordN M pc) = I) (hn : kindK (wordN M pc) = n) : itemN (wordN M pc) pc = ⟨pc, I, if n = 3 then pc + I.imm else if n = 4 then 0#32 else pc + 4#32⟩ := by rw [itemN, nextN, hI, hn]
theorem onN_row (x : IIt) (n : Nat) (T : List Bool) : onN true x n T = (!endsN n, x, T) := rfl
theorem onN_path (x : IIt) (n : Nat) (T : List Bool) : onN false x n T = pathOn x n T := rfl
theorem pathOn_nil (x : IIt) {n : Nat} (hb : brN n = true) : pathOn x n [] = (false, x, []) := pathOn_br x hb
theorem pathOn_f (x : IIt) {n : Nat} (hb : brN n = true) (r : List Bool) : pathOn x n (false :: r) = (true, x, r) := by unfold pathOn; rw [if_neg (by rw [hb]; simp)]; rfl
theorem pathOn_t (x : IIt) {n : Nat} (hb : brN n = true) (r : List Bool) (hm : x.i.imm.toNat % 4 = 0) : pathOn x n (true :: r) = (true, { x with next := x.pc + x.i.imm }, r) := by unfold pathOn; rw [if_neg (by rw [hb]; simp)]; simp [hm]
theorem pathOn_x (x : IIt) {n : Nat} (hb : brN n = true) (r : List Bool) (hm : x.i.imm.toNat % 4 ≠ 0) : pathOn x n (true :: r) = (false, x, r) := by unfold pathOn; rw [if_neg (by rw [hb]; simp)]; simp [hm]
set_option maxHeartbeats 4000000 in
theorem rPath_spec (M : IRam) (hb : M.b.length ≤ 65536) (rows : Bool) (T : List Bool) (pc : BitVec 32) (most : Int) :
    Spec Tryd.prog G 14 [byt M.b, .int .u32 pc.toNat, .ro (bos T) T.length, .int .i64 most, .bool rows] h
      (Is (.ro (its (walkN (onN rows) M (min most 32).toNat pc T)) (walkN (onN rows) M (min most 32).toNat pc T).length) h) := by
  obtain ⟨F, hF⟩ : ∃ F, (min most 32).toNat = F := ⟨_, rfl⟩
  rw [hF]
  have hmin : min most 32 = if 32 < most then 32 else most := by split <;> omega
  have hF32 : F ≤ 32 := by rw [← hF]; omega
  obtain ⟨L, hL⟩ : ∃ L, walkN (onN rows) M F pc T = L := ⟨_, rfl⟩
  rw [hL]
  refine Spec.weak (Q := fun r h' => ∃ h1, Sub h1 h' ∧ Own 8 h r (its L) L.length h1) ?_ ?_
  · refine Spec.walk C14ok rfl ?_
    simp only [push_cast, simprocAttr]
    intro c0 hc0
    refine lpc.rel [0, 1, 2, 3, 4, 11, 12] (fun m ρ H' => ∃ (out : List IIt) (v : AV) (k : Nat) (pc' : BitVec 32) (T' : List Bool), m = F - out.length ∧ out.length ≤ F ∧ Own 8 h v (its out) out.length H' ∧ k ≤ out.length ∧ (rows = false → T' = T.drop k) ∧
      L = out ++ walkN (onN rows) M (F - out.length) pc' T' ∧
      ρ = [(0, byt M.b), (1, .int .u32 pc'.toNat), (2, .ro (bos T) T.length), (3, .int .i64 most), (4, .bool rows), (11, v), (12, .int .i64 (k : Int))])
      ⟨_, [], .sl c0 0 0 0, 0, pc, T, rfl, by simp, .row c0 0 0 [] [] 0 hc0 rfl (by omega), by simp, fun _ => rfl, hL.symm, rfl⟩ ?_
    rintro m _ H' ⟨out, v, k, pc', T', rfl, hle, ho, hk, hT, hw, rfl⟩
    have hal := ho.alen
    simp only [push_cast, simprocAttr, hal]
    by_cases hlt : (out.length : Int) < most ∧ out.length < 32
    · obtain ⟨l1, l2⟩ := hlt
      have l2' : ((out.length : Int) < 32) = True := by simp; omega
      have hlt2 : out.length < F := by rw [← hF, hmin]; split <;> omega
      obtain ⟨j, hj⟩ : ∃ j, F - out.length = j + 1 := ⟨F - out.length - 1, by omega⟩
      rw [hj] at hw
      have hp4 : ((pc'.toNat : Int).tmod 4 = 0) = (pc'.toNat % 4 = 0) := by rw [Int.tmod_eq_emod_of_nonneg (by omega)]; simp; omega
      have hA : askedN M.b.length pc' 4 = if pc'.toNat % 4 = 0 then (if hasN M.b.length pc' 4 then 0 else 6) else 5 := by
        have e : ((pc'.toNat : Int) % 4 ≠ 0) ↔ ¬ pc'.toNat % 4 = 0 := by omega
        rw [askedN, if_neg (by omega)]
        by_cases h4 : pc'.toNat % 4 = 0
        · rw [if_neg (by omega), if_pos h4]
        · rw [if_pos (by omega), if_neg h4]
      have hsub : ∀ H1, Sub H1 H1 := fun H1 => .refl _
      have no : okAt M pc' = false → ∃ h1, Sub h1 H' ∧ Own 8 h v (its L) L.length h1 := fun e => by
        rw [walk_no e, List.append_nil] at hw
        exact ⟨H', .refl _, by rw [hw]; exact ho⟩
      by_cases h4 : pc'.toNat % 4 = 0
      · have hS := fun H => rHas_spec (G := G) (h := H) M.b pc' 4 hb (by omega) (by omega)
        cases hH : hasN M.b.length pc' 4 with
        | false =>
          rw [hH] at hS
          simp only [push_cast, simprocAttr, l1, l2', hp4, h4]
          refine (hS _).to ?_
          simp only [push_cast, simprocAttr]
          exact no (by rw [okAt, hA, if_pos h4, hH]; simp)
        | true =>
          rw [hH] at hS
          have hO : okAt M pc' = canN (wordN M pc') (kindK (wordN M pc')) := by rw [okAt, hA, if_pos h4, hH]; simp
          have hwd : wordN M pc' = M.load pc' 4 := by rw [wordN, hA, if_pos h4, hH]; simp
          have hLd := fun H => rLoad_spec (G := G) (h := H) M pc' 4 hb (.inr (.inr rfl)) hH
          rw [← hwd] at hLd
          have hD := fun H => rDecode_spec (G := G) (h := H) (wordN M pc')
          have hK := kindK_lt (wordN M pc')
          have hC := fun H => rCan_spec (G := G) (h := H) (wordN M pc') (kindK (wordN M pc')) hK
          rw [← dec_laid, ← hO] at hC
          have hop : (decI (wordN M pc')).op = kindK (wordN M pc') := by rw [dec_laid]; rfl
          have hB := fun H => rBranch_spec (G := G) (h := H) (kindK (wordN M pc'))
          obtain ⟨K, hKe⟩ : ∃ K, kindK (wordN M pc') = K := ⟨_, rfl⟩
          obtain ⟨I, hIe⟩ : ∃ I, decI (wordN M pc') = I := ⟨_, rfl⟩
          have hit := item_at M pc' hIe hKe
          rw [hKe] at hK hop hB
          rw [hIe] at hD hC hop
          have ce : okAt M pc' = true → K ≠ 3 → K ≠ 4 → brN K = false → endsN K = false := fun e a b c => can_ends (w := wordN M pc') (by rw [hO, hKe] at e; exact e) a b c
          have step := fun (o1 : okAt M pc' = true) b x U (hf : onN rows (itemN (wordN M pc') pc') K T' = (b, x, U)) => walk_S (k := j) o1 (by rw [hKe]; exact hf)
          rw [hit] at step
          clear hO hwd hit hIe hKe
          generalize wordN M pc' = w at *
          obtain ⟨op, rd, rs1, rs2, imm, csr⟩ := I
          simp only at hop
          subst hop
          have si : splice [AV.int .i64 0, .int .i64 0, .int .i64 0, .int .i64 0, .int .u32 0, .int .i64 0] 0 (IIn.cells ⟨K, rd, rs1, rs2, imm, csr⟩) = IIn.cells ⟨K, rd, rs1, rs2, imm, csr⟩ := splice_all' rfl
          have pI : partOf (IIn.cells ⟨K, rd, rs1, rs2, imm, csr⟩) 0 (some 6) = some (.agg (IIn.cells ⟨K, rd, rs1, rs2, imm, csr⟩)) := rfl
          have p8 : ∀ a b c d e f g i : AV, partOf [a, b, c, d, e, f, g, i] 0 (some 8) = some (.agg [a, b, c, d, e, f, g, i]) := fun _ _ _ _ _ _ _ _ => rfl
          simp only [push_cast, simprocAttr, l1, l2', hp4, h4]
          refine (hS _).to ?_
          simp only [push_cast, simprocAttr]
          refine (hLd _).to ?_
          simp only [push_cast, simprocAttr]
          refine (hD _).to ?_
          simp only [push_cast, simprocAttr, si]
          intro c13 hc13
          rw [era_none hc13]
          have pI' : partOf (IIn.cells ⟨K, rd, rs1, rs2, imm, csr⟩) 0 (some 6) = some (.agg (IIn.cells ⟨K, rd, rs1, rs2, imm, csr⟩)) := rfl
          (try simp only [push_cast, simprocAttr, pI])
          refine (hC _).to ?_
          cases hok : okAt M pc' with
          | false =>
            simp only [push_cast, simprocAttr]
            exact no hok
          | true =>
            have step := step hok
            have hlen : ∀ x : IIt, (out ++ [x]).length = out.length + 1 := fun x => by simp
            have hits : ∀ x : IIt, its (out ++ [x]) = its out ++ x.cells := fun x => by simp [its]
            have start : ∀ (x : IIt) (c : Nat), H' c = none → Own 8 (upd h c ⟨x.cells, 0⟩) v (its out) out.length (upd H' c ⟨x.cells, 0⟩) := fun x c hc => ho.upd (.inl hc)
            have finE : ∀ (x : IIt) (v3 : AV) (h3 : Heap) (c : Nat) U, H' c = none → onN rows ⟨pc', ⟨K, rd, rs1, rs2, imm, csr⟩, if K = 3 then pc' + imm else if K = 4 then 0#32 else pc' + 4#32⟩ K T' = (false, x, U) →
                Own 8 (upd h c ⟨x.cells, 0⟩) v3 (its out ++ x.cells) (out.length + 1) h3 → ∃ h1, Sub h1 h3 ∧ Own 8 h v3 (its L) L.length h1 := by
              intro x v3 h3 c U hc hf ho3
              rw [step false x U hf, if_neg (by simp)] at hw
              obtain ⟨h1, hs1, ho1⟩ := Own.drop ho3 (ho.sub.none hc)
              exact ⟨h1, hs1, by rw [hw, hits, hlen]; exact ho1⟩
            have finG : ∀ (x : IIt) (v3 : AV) (h3 : Heap) (c : Nat) U, H' c = none → onN rows ⟨pc', ⟨K, rd, rs1, rs2, imm, csr⟩, if K = 3 then pc' + imm else if K = 4 then 0#32 else pc' + 4#32⟩ K T' = (true, x, U) →
                Own 8 (upd h c ⟨x.cells, 0⟩) v3 (its out ++ x.cells) (out.length + 1) h3 → ∃ h1, Sub h1 h3 ∧ Own 8 h v3 (its (out ++ [x])) (out ++ [x]).length h1 ∧ L = (out ++ [x]) ++ walkN (onN rows) M (F - (out ++ [x]).length) x.next U := by
              intro x v3 h3 c U hc hf ho3
              rw [step true x U hf, if_pos rfl] at hw
              obtain ⟨h1, hs1, ho1⟩ := Own.drop ho3 (ho.sub.none hc)
              exact ⟨h1, hs1, by rw [hits, hlen]; exact ho1, by rw [hw, hlen, show F - (out.length + 1) = j by omega]; simp⟩
            clear step
            by_cases k4 : K = 4
            · subst k4
              have hb4 : brN 4 = false := by decide
              rw [hb4] at hB
              have hf : onN rows ⟨pc', ⟨4, rd, rs1, rs2, imm, csr⟩, 0#32⟩ 4 T' = (false, ⟨pc', ⟨4, rd, rs1, rs2, imm, csr⟩, 0#32⟩, T') := by
                cases rows
                · rw [onN_path, pathOn_no _ hb4]; rfl
                · rfl
              simp only [push_cast, simprocAttr, pI, IIn.cells]
              intro c14 hc14
              (try simp only [push_cast, simprocAttr, pI, IIn.cells])
              refine (hB _).to ?_
              simp only [push_cast, simprocAttr, p8]
              refine Own.app (start ⟨pc', ⟨4, rd, rs1, rs2, imm, csr⟩, 0#32⟩ c14 hc14) (m := 1) rfl (by omega) (by omega) fun v3 h3 ho3 => ?_
              simp only [push_cast, simprocAttr, ho3.one]
              exact finE _ _ _ c14 _ hc14 hf ho3
            have z4 : ((K : Int) = 4) = False := by simp only [eq_iff_iff, iff_false]; omega
            have z4b : ((K : Int) == 4) = false := by rw [beq_eq_false_iff_ne]; omega
            by_cases k3 : K = 3
            · subst k3
              have hb3 : brN 3 = false := by decide
              rw [hb3] at hB
              have hf : onN rows ⟨pc', ⟨3, rd, rs1, rs2, imm, csr⟩, pc' + imm⟩ 3 T' = (!rows, ⟨pc', ⟨3, rd, rs1, rs2, imm, csr⟩, pc' + imm⟩, T') := by
                cases rows
                · rw [onN_path, pathOn_no _ hb3]; rfl
                · rfl
              simp only [push_cast, simprocAttr, pI, IIn.cells]
              intro c14 hc14
              (try simp only [push_cast, simprocAttr, pI, IIn.cells])
              refine (hB _).to ?_
              simp only [push_cast, simprocAttr, p8]
              refine Own.app (start ⟨pc', ⟨3, rd, rs1, rs2, imm, csr⟩, pc' + imm⟩ c14 hc14) (m := 1) rfl (by omega) (by omega) fun v3 h3 ho3 => ?_
              cases rows with
              | true =>
                simp only [push_cast, simprocAttr, ho3.one]
                exact finE _ _ _ c14 _ hc14 hf ho3
              | false =>
                have g7 := ho3.get (b := c14) (upd_same _ _ _)
                simp only [push_cast, simprocAttr, ho3.one, g7, IIt.cells, IIn.cells]
                obtain ⟨h1, e1, e2, e3⟩ := finG _ _ _ c14 _ hc14 hf ho3
                exact ⟨_, h1, by rw [hlen]; omega, e1, out ++ [_], v3, k, _, T', rfl, by rw [hlen]; omega, e2, by rw [hlen]; omega, hT rfl, e3, rfl⟩
            have z3 : ((K : Int) = 3) = False := by simp only [eq_iff_iff, iff_false]; omega
            rw [if_neg k3, if_neg k4] at finE finG
            obtain ⟨nx, hnx⟩ : ∃ nx, pc' + 4#32 = nx := ⟨_, rfl⟩
            cases hbr : brN K with
            | false =>
              rw [hbr] at hB
              have hf : onN rows ⟨pc', ⟨K, rd, rs1, rs2, imm, csr⟩, pc' + 4#32⟩ K T' = (true, ⟨pc', ⟨K, rd, rs1, rs2, imm, csr⟩, pc' + 4#32⟩, T') := by
                cases rows
                · rw [onN_path, pathOn_no _ hbr, decide_eq_true k4]
                · rw [onN_row, ce hok k3 k4 hbr]; rfl
              simp only [push_cast, simprocAttr, pI, IIn.cells, z3, z4, z4b]
              intro c14 hc14
              (try simp only [push_cast, simprocAttr, pI, IIn.cells, z3, z4, z4b])
              refine (hB _).to ?_
              simp only [push_cast, simprocAttr, p8]
              refine Own.app (start ⟨pc', ⟨K, rd, rs1, rs2, imm, csr⟩, pc' + 4#32⟩ c14 hc14) (m := 1) rfl (by omega) (by omega) fun v3 h3 ho3 => ?_
              have g7 := ho3.get (b := c14) (upd_same _ _ _)
              simp only [push_cast, simprocAttr, ho3.one, g7, IIt.cells, IIn.cells]
              obtain ⟨h1, e1, e2, e3⟩ := finG _ _ _ c14 _ hc14 hf ho3
              exact ⟨_, h1, by rw [hlen]; omega, e1, out ++ [_], v3, k, _, T', rfl, by rw [hlen]; omega, e2, by rw [hlen]; omega, hT, e3, rfl⟩
            | true =>
              rw [hbr] at hB
              cases rows with
              | true =>
                have hf : onN true ⟨pc', ⟨K, rd, rs1, rs2, imm, csr⟩, pc' + 4#32⟩ K T' = (false, ⟨pc', ⟨K, rd, rs1, rs2, imm, csr⟩, pc' + 4#32⟩, T') := by
                  rw [onN_row, br_ends hbr]; rfl
                simp only [push_cast, simprocAttr, pI, IIn.cells, z3, z4, z4b]
                intro c14 hc14
                (try simp only [push_cast, simprocAttr, pI, IIn.cells, z3, z4, z4b])
                refine (hB _).to ?_
                simp (disch := omega) only [push_cast, simprocAttr, wrap_i64, toNat_ofInt64, Nat.min_eq_left, Int.toNat_of_nonneg, p8]
                refine Own.app (start ⟨pc', ⟨K, rd, rs1, rs2, imm, csr⟩, pc' + 4#32⟩ c14 hc14) (m := 1) rfl (by omega) (by omega) fun v3 h3 ho3 => ?_
                simp only [push_cast, simprocAttr, ho3.one]
                exact finE _ _ _ c14 _ hc14 hf ho3
              | false =>
                have hT := hT rfl
                subst hT
                by_cases hkT : k < T.length
                · have hd : T.drop k = T.getD k false :: T.drop (k + 1) := by rw [List.drop_eq_getElem_cons hkT]; simp [hkT]
                  have hge : ((k : Int) ≥ (T.length : Int)) = False := by simp; omega
                  rw [hd] at finE finG
                  have hx : (bos T)[k]? = some (.bool (T.getD k false)) := by rw [bos_get, if_pos hkT]
                  have hi : ((imm.toNat : Int).tmod 4 = 0) = (imm.toNat % 4 = 0) := by rw [Int.tmod_eq_emod_of_nonneg (by omega)]; simp; omega
                  generalize T.getD k false = t at hd hx finE finG
                  cases t with
                  | false =>
                    have hf : onN false ⟨pc', ⟨K, rd, rs1, rs2, imm, csr⟩, pc' + 4#32⟩ K (false :: T.drop (k + 1)) = (true, ⟨pc', ⟨K, rd, rs1, rs2, imm, csr⟩, pc' + 4#32⟩, T.drop (k + 1)) := by
                      rw [onN_path, pathOn_f _ hbr]
                    simp only [push_cast, simprocAttr, pI, IIn.cells, z3, z4, z4b]
                    intro c14 hc14
                    (try simp only [push_cast, simprocAttr, pI, IIn.cells, z3, z4, z4b])
                    refine (hB _).to ?_
                    simp (disch := omega) only [push_cast, simprocAttr, wrap_i64, toNat_ofInt64, Nat.min_eq_left, Int.toNat_of_nonneg, p8, hge, hx]
                    refine ⟨hkT, hkT, ?_⟩
                    refine Own.app (start ⟨pc', ⟨K, rd, rs1, rs2, imm, csr⟩, pc' + 4#32⟩ c14 hc14) (m := 1) rfl (by omega) (by omega) fun v3 h3 ho3 => ?_
                    have g7 := ho3.get (b := c14) (upd_same _ _ _)
                    simp (disch := omega) only [push_cast, simprocAttr, wrap_i64, toNat_ofInt64, Nat.min_eq_left, Int.toNat_of_nonneg, ho3.one, g7, IIt.cells, IIn.cells]
                    obtain ⟨h1, e1, e2, e3⟩ := finG _ _ _ c14 _ hc14 hf ho3
                    exact ⟨_, h1, by rw [hlen]; omega, e1, out ++ [_], v3, k + 1, _, _, rfl, by rw [hlen]; omega, e2, by rw [hlen]; omega, rfl, e3, rfl⟩
                  | true =>
                    by_cases hm : imm.toNat % 4 = 0
                    · have i0 : (imm.toNat : Int).tmod 4 = 0 := by rw [hi]; exact hm
                      have hf : onN false ⟨pc', ⟨K, rd, rs1, rs2, imm, csr⟩, pc' + 4#32⟩ K (true :: T.drop (k + 1)) = (true, ⟨pc', ⟨K, rd, rs1, rs2, imm, csr⟩, pc' + imm⟩, T.drop (k + 1)) := by
                        rw [onN_path, pathOn_t _ hbr _ hm]
                      simp only [push_cast, simprocAttr, pI, IIn.cells, z3, z4, z4b]
                      intro c14 hc14
                      (try simp only [push_cast, simprocAttr, pI, IIn.cells, z3, z4, z4b])
                      refine (hB _).to ?_
                      simp (disch := omega) only [push_cast, simprocAttr, wrap_i64, toNat_ofInt64, Nat.min_eq_left, Int.toNat_of_nonneg, p8, hge, hx, i0]
                      refine ⟨hkT, hkT, ?_⟩
                      refine Own.app (start ⟨pc', ⟨K, rd, rs1, rs2, imm, csr⟩, pc' + imm⟩ c14 hc14) (m := 1) rfl (by omega) (by omega) fun v3 h3 ho3 => ?_
                      have g7 := ho3.get (b := c14) (upd_same _ _ _)
                      simp (disch := omega) only [push_cast, simprocAttr, wrap_i64, toNat_ofInt64, Nat.min_eq_left, Int.toNat_of_nonneg, ho3.one, g7, IIt.cells, IIn.cells, i0]
                      obtain ⟨h1, e1, e2, e3⟩ := finG _ _ _ c14 _ hc14 hf ho3
                      exact ⟨_, h1, by rw [hlen]; omega, e1, out ++ [_], v3, k + 1, _, _, rfl, by rw [hlen]; omega, e2, by rw [hlen]; omega, rfl, e3, rfl⟩
                    · have i0 : ((imm.toNat : Int).tmod 4 = 0) = False := by rw [hi]; simp [hm]
                      have hf : onN false ⟨pc', ⟨K, rd, rs1, rs2, imm, csr⟩, pc' + 4#32⟩ K (true :: T.drop (k + 1)) = (false, ⟨pc', ⟨K, rd, rs1, rs2, imm, csr⟩, pc' + 4#32⟩, T.drop (k + 1)) := by
                        rw [onN_path, pathOn_x _ hbr _ hm]
                      simp only [push_cast, simprocAttr, pI, IIn.cells, z3, z4, z4b]
                      intro c14 hc14
                      (try simp only [push_cast, simprocAttr, pI, IIn.cells, z3, z4, z4b])
                      refine (hB _).to ?_
                      simp (disch := omega) only [push_cast, simprocAttr, wrap_i64, toNat_ofInt64, Nat.min_eq_left, Int.toNat_of_nonneg, p8, hge, hx, i0]
                      refine ⟨hkT, ?_⟩
                      refine Own.app (start ⟨pc', ⟨K, rd, rs1, rs2, imm, csr⟩, pc' + 4#32⟩ c14 hc14) (m := 1) rfl (by omega) (by omega) fun v3 h3 ho3 => ?_
                      simp only [push_cast, simprocAttr, ho3.one, i0]
                      exact finE _ _ _ c14 _ hc14 hf ho3
                · have hd : T.drop k = [] := List.drop_eq_nil_of_le (by omega)
                  have hge : ((k : Int) ≥ (T.length : Int)) = True := by simp; omega
                  have hf : onN false ⟨pc', ⟨K, rd, rs1, rs2, imm, csr⟩, pc' + 4#32⟩ K (T.drop k) = (false, ⟨pc', ⟨K, rd, rs1, rs2, imm, csr⟩, pc' + 4#32⟩, []) := by
                    rw [onN_path, hd, pathOn_nil _ hbr]
                  simp only [push_cast, simprocAttr, pI, IIn.cells, z3, z4, z4b]
                  intro c14 hc14
                  (try simp only [push_cast, simprocAttr, pI, IIn.cells, z3, z4, z4b])
                  refine (hB _).to ?_
                  simp (disch := omega) only [push_cast, simprocAttr, wrap_i64, toNat_ofInt64, Nat.min_eq_left, Int.toNat_of_nonneg, p8, hge]
                  refine Own.app (start ⟨pc', ⟨K, rd, rs1, rs2, imm, csr⟩, pc' + 4#32⟩ c14 hc14) (m := 1) rfl (by omega) (by omega) fun v3 h3 ho3 => ?_
                  simp only [push_cast, simprocAttr, ho3.one]
                  exact finE _ _ _ c14 _ hc14 hf ho3
      · simp only [push_cast, simprocAttr, l1, l2', hp4, h4]
        exact no (by rw [okAt, hA, if_neg h4]; simp)
    · have hz : F - out.length = 0 := by
        rw [← hF, hmin]; split <;> omega
      rw [hz, walk_0, List.append_nil] at hw
      by_cases l1 : (out.length : Int) < most
      · have l2 : ((out.length : Int) < 32) = False := by simp; omega
        simp only [push_cast, simprocAttr, l1, l2]
        exact ⟨H', .refl _, by rw [hw]; exact ho⟩
      · simp only [push_cast, simprocAttr, l1]
        exact ⟨H', .refl _, by rw [hw]; exact ho⟩
  · rintro r h' ⟨h1, hs, ho⟩
    exact ⟨_, _, ⟨rfl, rfl⟩, le_tr (le_less hs) ho.freeze⟩
end Go.Ab
