/- Contract of package compare's States. -/
import Derived.Test.YtecfchkmmnphdaaT40d
set_option linter.unusedSimpArgs false
set_option linter.unusedVariables false
namespace Go.Ab
open Go.Proofs
variable {G : Glo} {h : Heap}
structure St where
  pc : Int
  regs : List Int
  kept : List Int
  cycles : Int
  instrs : Int
  tick : Int
  retired : Int
  ram : List Int
  rx : List Int
  out : List Int
  over : Bool
  came : Int
  offset : Int
  mark : Int
  soft : Bool
  off : Bool
  code : Int
  events : List Ev
def St.tail (a : St) : List AV := [.int .u64 a.cycles, .int .u64 a.instrs, .int .u64 a.tick, .int .u64 a.retired, byt a.ram, byt a.rx, byt a.out, .bool a.over, .int .i64 a.came, .int .u64 a.offset, .int .u64 a.mark, .bool a.soft, .bool a.off, .int .u32 a.code, evs a.events]
def St.cells (a : St) : List AV := .int .u32 a.pc :: (u32s a.regs ++ (u32s a.kept ++ a.tail))
structure St.wf (a : St) : Prop where
  regs : a.regs.length = 32
  kept : a.kept.length = 7
  pc32 : u32ok a.pc
  regs32 : ∀ x ∈ a.regs, u32ok x
  kept32 : ∀ x ∈ a.kept, u32ok x
  code32 : u32ok a.code
  ram8 : ∀ x ∈ a.ram, u8ok x
  rx8 : ∀ x ∈ a.rx, u8ok x
  out8 : ∀ x ∈ a.out, u8ok x
  evs : ∀ e ∈ a.events, e.ok
structure St.ok (a : St) : Prop extends St.wf a where
  ramL : a.ram.length ≤ 1000000
  rxL : a.rx.length ≤ 1000000
  outL : a.out.length ≤ 1000000
  evsL : a.events.length ≤ 1000000
def ri (l : List Int) (k : Nat) : Int := (l[k]?).getD 0
theorem u32s_len (l : List Int) : (u32s l).length = l.length := by simp [u32s]
theorem St.len {a : St} (ok : a.wf) : a.cells.length = 55 := by
  simp [St.cells, u32s_len, ok.regs, ok.kept, St.tail]
theorem St.pc_at (a : St) : a.cells[0]? = some (.int .u32 a.pc) := rfl
theorem St.reg_at {a : St} (ok : a.wf) {k : Nat} (hk : k < 32) : a.cells[1 + k]? = some (.int .u32 (ri a.regs k)) := by
  have hk' : k < a.regs.length := by rw [ok.regs]; exact hk
  rw [Nat.add_comm]
  simp only [St.cells, List.getElem?_cons_succ]
  rw [List.getElem?_append_left (by rw [u32s_len]; exact hk')]
  simp [u32s, ri, hk']
theorem ri_ok {l : List Int} (h : ∀ x ∈ l, u32ok x) (k : Nat) : u32ok (ri l k) := by
  unfold ri
  cases e : l[k]? with
  | none => exact ⟨by decide, by decide⟩
  | some x => exact h x (List.mem_of_getElem? e)
theorem St.tail_at {a : St} (ok : a.wf) (k : Nat) : a.cells[40 + k]? = a.tail[k]? := by
  have : 40 + k = 1 + (32 + (7 + k)) := by omega
  rw [this, Nat.add_comm 1]
  simp only [St.cells, List.getElem?_cons_succ]
  rw [List.getElem?_append_right (by rw [u32s_len, ok.regs]; omega), u32s_len, ok.regs, Nat.add_sub_cancel_left, List.getElem?_append_right (by rw [u32s_len, ok.kept]; omega), u32s_len, ok.kept, Nat.add_sub_cancel_left]
theorem St.kept_at {a : St} (ok : a.wf) : partOf a.cells 33 (some 7) = some (.agg (u32s a.kept)) := by
  simp only [partOf, St.len ok]
  rw [if_pos (by decide)]
  congr 2
  simp only [St.cells, List.drop_succ_cons]
  rw [List.drop_append, List.drop_eq_nil_of_le (by rw [u32s_len, ok.regs]; exact Nat.le_refl _), List.nil_append, u32s_len, ok.regs, Nat.sub_self, List.drop_zero, List.take_append]
  rw [List.take_of_length_le (by rw [u32s_len, ok.kept]; exact Nat.le_refl _), u32s_len, ok.kept]
  simp
theorem St.c40 {a : St} (ok : a.wf) : a.cells[40]? = some (.int .u64 a.cycles) := St.tail_at ok 0
theorem St.c41 {a : St} (ok : a.wf) : a.cells[41]? = some (.int .u64 a.instrs) := St.tail_at ok 1
theorem St.c42 {a : St} (ok : a.wf) : a.cells[42]? = some (.int .u64 a.tick) := St.tail_at ok 2
theorem St.c43 {a : St} (ok : a.wf) : a.cells[43]? = some (.int .u64 a.retired) := St.tail_at ok 3
theorem St.c44 {a : St} (ok : a.wf) : a.cells[44]? = some (byt a.ram) := St.tail_at ok 4
theorem St.c45 {a : St} (ok : a.wf) : a.cells[45]? = some (byt a.rx) := St.tail_at ok 5
theorem St.c46 {a : St} (ok : a.wf) : a.cells[46]? = some (byt a.out) := St.tail_at ok 6
theorem St.c47 {a : St} (ok : a.wf) : a.cells[47]? = some (.bool a.over) := St.tail_at ok 7
theorem St.c48 {a : St} (ok : a.wf) : a.cells[48]? = some (.int .i64 a.came) := St.tail_at ok 8
theorem St.c49 {a : St} (ok : a.wf) : a.cells[49]? = some (.int .u64 a.offset) := St.tail_at ok 9
theorem St.c50 {a : St} (ok : a.wf) : a.cells[50]? = some (.int .u64 a.mark) := St.tail_at ok 10
theorem St.c51 {a : St} (ok : a.wf) : a.cells[51]? = some (.bool a.soft) := St.tail_at ok 11
theorem St.c52 {a : St} (ok : a.wf) : a.cells[52]? = some (.bool a.off) := St.tail_at ok 12
theorem St.c53 {a : St} (ok : a.wf) : a.cells[53]? = some (.int .u32 a.code) := St.tail_at ok 13
theorem St.c54 {a : St} (ok : a.wf) : a.cells[54]? = some (evs a.events) := St.tail_at ok 14
theorem filt_len (l : List Df) {n : Nat} (h : l.length ≤ n) : (l.filter Df.ne).length ≤ n := Nat.le_trans (List.length_filter_le _ _) h
theorem len_add {l m : List Df} {n k : Nat} (h : l.length ≤ n) (h' : m.length ≤ k) : (l ++ m).length ≤ n + k := by rw [List.length_append]; omega
theorem put_f {g : Heap} {b : Nat} {L : List Df} (hL : Lst g b (L.filter Df.ne) h) (hlen : L.length ≤ 1000) (what : ByteArray) (at_ x y : Int) :
    Spec Try.prog G 44 [.ptr b 0, .str what, .int .i64 at_, .int .u64 x, .int .u64 y] h (fun _ h' => Lst g b ((L ++ [(⟨what, at_, x, y⟩ : Df)]).filter Df.ne) h') := by
  rw [List.filter_append, ← dputs_eq]
  exact put_spec hL (filt_len L hlen) what at_ x y
theorem word_f {g : Heap} {b : Nat} {L : List Df} (hL : Lst g b (L.filter Df.ne) h) (hlen : L.length ≤ 1000) (what : ByteArray) (at_ x y : Int) (hx : u32ok x) (hy : u32ok y) :
    Spec Try.prog G 42 [.ptr b 0, .str what, .int .i64 at_, .int .u32 x, .int .u32 y] h (fun _ h' => Lst g b ((L ++ [(⟨what, at_, x, y⟩ : Df)]).filter Df.ne) h') := by
  rw [List.filter_append, ← dputs_eq]
  exact word_spec hL (filt_len L hlen) what at_ x y hx hy
theorem truth_f {g : Heap} {b : Nat} {L : List Df} (hL : Lst g b (L.filter Df.ne) h) (hlen : L.length ≤ 1000) (what : ByteArray) (x y : Bool) :
    Spec Try.prog G 46 [.ptr b 0, .str what, .bool x, .bool y] h (fun _ h' => Lst g b ((L ++ [(⟨what, 0, one x, one y⟩ : Df)]).filter Df.ne) h') := by
  rw [List.filter_append, ← dputs_eq]
  exact truth_spec hL (filt_len L hlen) what x y
theorem bytesFrom_filt (what : ByteArray) (a b : List Int) : ∀ d k, (bytesFrom what a b d k).filter Df.ne = bytesFrom what a b d k := by
  intro d
  induction d with
  | zero => intro k; rfl
  | succ d ih =>
    intro k
    simp only [bytesFrom]
    split
    · exact ih _
    · rename_i hne
      rw [← dputs_eq, dputs, if_neg hne]
def bytesC (what : ByteArray) (a b : List Int) : List Df := bytesFrom what a b (max a.length b.length) 0
theorem bytes_f {g : Heap} {b : Nat} {L : List Df} (hL : Lst g b (L.filter Df.ne) h) (hlen : L.length ≤ 1000) (what : ByteArray) (xs ys : List Int) (hx : ∀ x ∈ xs, u8ok x) (hy : ∀ x ∈ ys, u8ok x) (hm : xs.length ≤ 1000000) (hm' : ys.length ≤ 1000000) :
    Spec Try.prog G 45 [.ptr b 0, .str what, byt xs, byt ys] h (fun _ h' => Lst g b ((L ++ bytesC what xs ys).filter Df.ne) h') := by
  rw [List.filter_append, bytesC, bytesFrom_filt]
  exact bytes_spec hL (filt_len L hlen) what xs ys hx hy (by omega)
theorem kept_f {g : Heap} {b : Nat} {L : List Df} (hL : Lst g b (L.filter Df.ne) h) (hlen : L.length ≤ 100) (x y : List Int) (hxl : x.length = 7) (hyl : y.length = 7) (hx : ∀ v ∈ x, u32ok v) (hy : ∀ v ∈ y, u32ok v) :
    Spec Try.prog G 43 [.ptr b 0, .agg (u32s x), .agg (u32s y)] h (fun _ h' => Lst g b ((L ++ keptC x y).filter Df.ne) h') := by
  rw [List.filter_append]
  exact kept_spec hL (filt_len L hlen) x y hxl hyl hx hy
def regsC (x y : List Int) : Nat → Nat → List Df
  | 0, _ => []
  | d + 1, k => ⟨⟨#[114, 101, 103, 105, 115, 116, 101, 114]⟩, k, ri x k, ri y k⟩ :: regsC x y d (k + 1)
theorem regsC_len (x y : List Int) : ∀ d k, (regsC x y d k).length = d := by
  intro d
  induction d with
  | zero => intro k; rfl
  | succ d ih => intro k; simp [regsC, ih]
theorem regs_loop {g : Heap} {b bx by_ : Nat} {a c : St} (oa : a.ok) (oc : c.ok) (gX : g bx = some ⟨a.cells, 0⟩) (gY : g by_ = some ⟨c.cells, 0⟩) {Q : Exit → Env → Heap → Prop} {R : List Df}
    (hexit : ∀ ρ h', lk ρ 2 = .ptr bx 0 → lk ρ 3 = .ptr by_ 0 → lk ρ 5 = .ptr b 0 → Lst g b (R.filter Df.ne) h' → Q (.exit 0) ρ h') : ∀ (d k : Nat) (L : List Df) (h : Heap), k + d = 32 → L ++ regsC a.regs c.regs d k = R → L.length ≤ 900 - d → Lst g b (L.filter Df.ne) h →
    Lp Try.prog G Try.f14.ntmps C14_11 Q (d + 1) [(2, .ptr bx 0), (3, .ptr by_ 0), (5, .ptr b 0), (6, .int .i64 k)] h := by
  intro d
  induction d with
  | zero =>
    intro k L h hk hR hlen hL
    refine Lp.succ [2, 3, 5, 6] ?_
    (try simp only [push_cast, Nat.reduceBEq, Nat.reduceEqDiff, reduceIte, reduceCtorEq, Nat.reduceAdd, Nat.reduceMul, Nat.reduceSub, Nat.reduceLeDiff, Nat.reduceLT, Int.reduceToNat, Int.reduceLT, Int.reduceLE, Int.reduceNeg, Int.reduceSub, Int.reduceAdd, Int.reduceEq, Int.reduceNe, Int.reduceMul]); (repeat (first | refine Wp.seq ?_ | refine Wp.block ?_ | (refine Wp.reg ?_; simp only [push_cast, Nat.reduceBEq, Nat.reduceEqDiff, reduceIte, reduceCtorEq, Nat.reduceAdd, Nat.reduceMul, Nat.reduceSub, Nat.reduceLeDiff, Nat.reduceLT, Int.reduceToNat, Int.reduceLT, Int.reduceLE, Int.reduceNeg, Int.reduceSub, Int.reduceAdd, Int.reduceEq, Int.reduceNe, Int.reduceMul]) | (refine Wp.skip ?_; simp only [push_cast, Nat.reduceBEq, Nat.reduceEqDiff, reduceIte, reduceCtorEq, Nat.reduceAdd, Nat.reduceMul, Nat.reduceSub, Nat.reduceLeDiff, Nat.reduceLT, Int.reduceToNat, Int.reduceLT, Int.reduceLE, Int.reduceNeg, Int.reduceSub, Int.reduceAdd, Int.reduceEq, Int.reduceNe, Int.reduceMul]) | (refine Wp.dreg (by kernel_rfl) (by decide) ?_; simp only [push_cast, Nat.reduceBEq, Nat.reduceEqDiff, reduceIte, reduceCtorEq, Nat.reduceAdd, Nat.reduceMul, Nat.reduceSub, Nat.reduceLeDiff, Nat.reduceLT, Int.reduceToNat, Int.reduceLT, Int.reduceLE, Int.reduceNeg, Int.reduceSub, Int.reduceAdd, Int.reduceEq, Int.reduceNe, Int.reduceMul]) | (refine Wp.ret ?_; simp only [push_cast, Nat.reduceBEq, Nat.reduceEqDiff, reduceIte, reduceCtorEq, Nat.reduceAdd, Nat.reduceMul, Nat.reduceSub, Nat.reduceLeDiff, Nat.reduceLT, Int.reduceToNat, Int.reduceLT, Int.reduceLE, Int.reduceNeg, Int.reduceSub, Int.reduceAdd, Int.reduceEq, Int.reduceNe, Int.reduceMul]) | (refine Wp.exit ?_; simp only [push_cast, Nat.reduceBEq, Nat.reduceEqDiff, reduceIte, reduceCtorEq, Nat.reduceAdd, Nat.reduceMul, Nat.reduceSub, Nat.reduceLeDiff, Nat.reduceLT, Int.reduceToNat, Int.reduceLT, Int.reduceLE, Int.reduceNeg, Int.reduceSub, Int.reduceAdd, Int.reduceEq, Int.reduceNe, Int.reduceMul])))
    refine Wp.cond rfl (fun ht => ?_) (fun ht => ?_)
    · exact absurd (of_decide_eq_true ht) (by omega)
    · refine Wp.exit ?_
      exact hexit _ _ rfl rfl rfl (by rw [← hR]; simpa [regsC] using hL)
  | succ d ih =>
    intro k L h hk hR hlen hL
    refine Lp.succ [2, 3, 5, 6] ?_
    (try simp only [push_cast, Nat.reduceBEq, Nat.reduceEqDiff, reduceIte, reduceCtorEq, Nat.reduceAdd, Nat.reduceMul, Nat.reduceSub, Nat.reduceLeDiff, Nat.reduceLT, Int.reduceToNat, Int.reduceLT, Int.reduceLE, Int.reduceNeg, Int.reduceSub, Int.reduceAdd, Int.reduceEq, Int.reduceNe, Int.reduceMul]); (repeat (first | refine Wp.seq ?_ | refine Wp.block ?_ | (refine Wp.reg ?_; simp only [push_cast, Nat.reduceBEq, Nat.reduceEqDiff, reduceIte, reduceCtorEq, Nat.reduceAdd, Nat.reduceMul, Nat.reduceSub, Nat.reduceLeDiff, Nat.reduceLT, Int.reduceToNat, Int.reduceLT, Int.reduceLE, Int.reduceNeg, Int.reduceSub, Int.reduceAdd, Int.reduceEq, Int.reduceNe, Int.reduceMul]) | (refine Wp.skip ?_; simp only [push_cast, Nat.reduceBEq, Nat.reduceEqDiff, reduceIte, reduceCtorEq, Nat.reduceAdd, Nat.reduceMul, Nat.reduceSub, Nat.reduceLeDiff, Nat.reduceLT, Int.reduceToNat, Int.reduceLT, Int.reduceLE, Int.reduceNeg, Int.reduceSub, Int.reduceAdd, Int.reduceEq, Int.reduceNe, Int.reduceMul]) | (refine Wp.dreg (by kernel_rfl) (by decide) ?_; simp only [push_cast, Nat.reduceBEq, Nat.reduceEqDiff, reduceIte, reduceCtorEq, Nat.reduceAdd, Nat.reduceMul, Nat.reduceSub, Nat.reduceLeDiff, Nat.reduceLT, Int.reduceToNat, Int.reduceLT, Int.reduceLE, Int.reduceNeg, Int.reduceSub, Int.reduceAdd, Int.reduceEq, Int.reduceNe, Int.reduceMul]) | (refine Wp.ret ?_; simp only [push_cast, Nat.reduceBEq, Nat.reduceEqDiff, reduceIte, reduceCtorEq, Nat.reduceAdd, Nat.reduceMul, Nat.reduceSub, Nat.reduceLeDiff, Nat.reduceLT, Int.reduceToNat, Int.reduceLT, Int.reduceLE, Int.reduceNeg, Int.reduceSub, Int.reduceAdd, Int.reduceEq, Int.reduceNe, Int.reduceMul]) | (refine Wp.exit ?_; simp only [push_cast, Nat.reduceBEq, Nat.reduceEqDiff, reduceIte, reduceCtorEq, Nat.reduceAdd, Nat.reduceMul, Nat.reduceSub, Nat.reduceLeDiff, Nat.reduceLT, Int.reduceToNat, Int.reduceLT, Int.reduceLE, Int.reduceNeg, Int.reduceSub, Int.reduceAdd, Int.reduceEq, Int.reduceNe, Int.reduceMul])))
    refine Wp.cond rfl (fun ht => ?_) (fun ht => ?_)
    · have hX := hL.get gX
      have hY := hL.get gY
      have hk' : k < 32 := by omega
      have hk2 : (k : Int) < 32 := by omega
      (try simp only [push_cast, Nat.reduceBEq, Nat.reduceEqDiff, reduceIte, reduceCtorEq, Nat.reduceAdd, Nat.reduceMul, Nat.reduceSub, Nat.reduceLeDiff, Nat.reduceLT, Int.reduceToNat, Int.reduceLT, Int.reduceLE, Int.reduceNeg, Int.reduceSub, Int.reduceAdd, Int.reduceEq, Int.reduceNe, Int.reduceMul, hX, hY, hk', hk2, St.reg_at oa.towf hk', St.reg_at oc.towf hk']); (repeat (first | refine Wp.seq ?_ | refine Wp.block ?_ | (refine Wp.reg ?_; simp only [push_cast, Nat.reduceBEq, Nat.reduceEqDiff, reduceIte, reduceCtorEq, Nat.reduceAdd, Nat.reduceMul, Nat.reduceSub, Nat.reduceLeDiff, Nat.reduceLT, Int.reduceToNat, Int.reduceLT, Int.reduceLE, Int.reduceNeg, Int.reduceSub, Int.reduceAdd, Int.reduceEq, Int.reduceNe, Int.reduceMul, hX, hY, hk', hk2, St.reg_at oa.towf hk', St.reg_at oc.towf hk']) | (refine Wp.skip ?_; simp only [push_cast, Nat.reduceBEq, Nat.reduceEqDiff, reduceIte, reduceCtorEq, Nat.reduceAdd, Nat.reduceMul, Nat.reduceSub, Nat.reduceLeDiff, Nat.reduceLT, Int.reduceToNat, Int.reduceLT, Int.reduceLE, Int.reduceNeg, Int.reduceSub, Int.reduceAdd, Int.reduceEq, Int.reduceNe, Int.reduceMul, hX, hY, hk', hk2, St.reg_at oa.towf hk', St.reg_at oc.towf hk']) | (refine Wp.dreg (by kernel_rfl) (by decide) ?_; simp only [push_cast, Nat.reduceBEq, Nat.reduceEqDiff, reduceIte, reduceCtorEq, Nat.reduceAdd, Nat.reduceMul, Nat.reduceSub, Nat.reduceLeDiff, Nat.reduceLT, Int.reduceToNat, Int.reduceLT, Int.reduceLE, Int.reduceNeg, Int.reduceSub, Int.reduceAdd, Int.reduceEq, Int.reduceNe, Int.reduceMul, hX, hY, hk', hk2, St.reg_at oa.towf hk', St.reg_at oc.towf hk']) | (refine Wp.ret ?_; simp only [push_cast, Nat.reduceBEq, Nat.reduceEqDiff, reduceIte, reduceCtorEq, Nat.reduceAdd, Nat.reduceMul, Nat.reduceSub, Nat.reduceLeDiff, Nat.reduceLT, Int.reduceToNat, Int.reduceLT, Int.reduceLE, Int.reduceNeg, Int.reduceSub, Int.reduceAdd, Int.reduceEq, Int.reduceNe, Int.reduceMul, hX, hY, hk', hk2, St.reg_at oa.towf hk', St.reg_at oc.towf hk']) | (refine Wp.exit ?_; simp only [push_cast, Nat.reduceBEq, Nat.reduceEqDiff, reduceIte, reduceCtorEq, Nat.reduceAdd, Nat.reduceMul, Nat.reduceSub, Nat.reduceLeDiff, Nat.reduceLT, Int.reduceToNat, Int.reduceLT, Int.reduceLE, Int.reduceNeg, Int.reduceSub, Int.reduceAdd, Int.reduceEq, Int.reduceNe, Int.reduceMul, hX, hY, hk', hk2, St.reg_at oa.towf hk', St.reg_at oc.towf hk'])))
      refine (word_f hL (by omega) _ _ _ _ (ri_ok oa.regs32 k) (ri_ok oc.regs32 k)).mono ?_
      intro r h1 k1
      (try simp only [push_cast, Nat.reduceBEq, Nat.reduceEqDiff, reduceIte, reduceCtorEq, Nat.reduceAdd, Nat.reduceMul, Nat.reduceSub, Nat.reduceLeDiff, Nat.reduceLT, Int.reduceToNat, Int.reduceLT, Int.reduceLE, Int.reduceNeg, Int.reduceSub, Int.reduceAdd, Int.reduceEq, Int.reduceNe, Int.reduceMul]); (repeat (first | refine Wp.seq ?_ | refine Wp.block ?_ | (refine Wp.reg ?_; simp only [push_cast, Nat.reduceBEq, Nat.reduceEqDiff, reduceIte, reduceCtorEq, Nat.reduceAdd, Nat.reduceMul, Nat.reduceSub, Nat.reduceLeDiff, Nat.reduceLT, Int.reduceToNat, Int.reduceLT, Int.reduceLE, Int.reduceNeg, Int.reduceSub, Int.reduceAdd, Int.reduceEq, Int.reduceNe, Int.reduceMul]) | (refine Wp.skip ?_; simp only [push_cast, Nat.reduceBEq, Nat.reduceEqDiff, reduceIte, reduceCtorEq, Nat.reduceAdd, Nat.reduceMul, Nat.reduceSub, Nat.reduceLeDiff, Nat.reduceLT, Int.reduceToNat, Int.reduceLT, Int.reduceLE, Int.reduceNeg, Int.reduceSub, Int.reduceAdd, Int.reduceEq, Int.reduceNe, Int.reduceMul]) | (refine Wp.dreg (by kernel_rfl) (by decide) ?_; simp only [push_cast, Nat.reduceBEq, Nat.reduceEqDiff, reduceIte, reduceCtorEq, Nat.reduceAdd, Nat.reduceMul, Nat.reduceSub, Nat.reduceLeDiff, Nat.reduceLT, Int.reduceToNat, Int.reduceLT, Int.reduceLE, Int.reduceNeg, Int.reduceSub, Int.reduceAdd, Int.reduceEq, Int.reduceNe, Int.reduceMul]) | (refine Wp.ret ?_; simp only [push_cast, Nat.reduceBEq, Nat.reduceEqDiff, reduceIte, reduceCtorEq, Nat.reduceAdd, Nat.reduceMul, Nat.reduceSub, Nat.reduceLeDiff, Nat.reduceLT, Int.reduceToNat, Int.reduceLT, Int.reduceLE, Int.reduceNeg, Int.reduceSub, Int.reduceAdd, Int.reduceEq, Int.reduceNe, Int.reduceMul]) | (refine Wp.exit ?_; simp only [push_cast, Nat.reduceBEq, Nat.reduceEqDiff, reduceIte, reduceCtorEq, Nat.reduceAdd, Nat.reduceMul, Nat.reduceSub, Nat.reduceLeDiff, Nat.reduceLT, Int.reduceToNat, Int.reduceLT, Int.reduceLE, Int.reduceNeg, Int.reduceSub, Int.reduceAdd, Int.reduceEq, Int.reduceNe, Int.reduceMul])))
      rw [wrap64_id (by omega) (by omega)]
      refine ih (k + 1) _ h1 (by omega) ?_ ?_ k1
      · rw [← hR]; simp [regsC]
      · rw [List.length_append]; simp only [List.length_cons, List.length_nil]; omega
    · exact absurd (of_decide_eq_false ht) (by omega)
end Go.Ab
