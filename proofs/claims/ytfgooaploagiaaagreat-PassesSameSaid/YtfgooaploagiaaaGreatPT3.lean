/- The code of some functions, with what their types tell written out; each is what the translation gives (kernel_rfl). Printed by mk.py out of the translation. -/
import Derived.Test.YtfgooaploagiaaaGreatPT2
import Derived.Test.YtfgooaploagiaaaGreatProg
section
/- Words as instructions: what fields are, over numbers alone. -/
set_option linter.unusedSimpArgs false
set_option linter.unusedVariables false
namespace Go.Ab
def fld (w : BitVec 32) (lo k : Nat) : Nat := w.toNat / 2 ^ lo % 2 ^ k
theorem fld_lt (w : BitVec 32) (lo k : Nat) : fld w lo k < 2 ^ k := Nat.mod_lt _ (Nat.two_pow_pos k)
theorem and_mod (w : BitVec 32) (k : Nat) (hk : k ≤ 32) : (w &&& BitVec.ofNat 32 (2 ^ k - 1)).toNat = w.toNat % 2 ^ k := by
  have h : 2 ^ k - 1 < 2 ^ 32 := by have := Nat.pow_le_pow_right (show 0 < 2 by omega) hk; have := Nat.two_pow_pos k; omega
  rw [BitVec.toNat_and, BitVec.toNat_ofNat, Nat.mod_eq_of_lt h, Nat.and_two_pow_sub_one_eq_mod]
structure IIn where
  op : Int
  rd : Int
  rs1 : Int
  rs2 : Int
  imm : BitVec 32
  csr : Int
  deriving DecidableEq
def IIn.zero : IIn := ⟨0, 0, 0, 0, 0, 0⟩
def IIn.cells (i : IIn) : List AV := [.int .i64 i.op, .int .i64 i.rd, .int .i64 i.rs1, .int .i64 i.rs2, .int .u32 (i.imm.toNat : Int), .int .i64 i.csr]
section
variable (i : IIn)
@[push_cast] theorem IIn.len : i.cells.length = 6 := rfl
@[push_cast] theorem IIn.c0 : i.cells[0]? = some (.int .i64 i.op) := rfl
@[push_cast] theorem IIn.c1 : i.cells[1]? = some (.int .i64 i.rd) := rfl
@[push_cast] theorem IIn.c2 : i.cells[2]? = some (.int .i64 i.rs1) := rfl
@[push_cast] theorem IIn.c3 : i.cells[3]? = some (.int .i64 i.rs2) := rfl
@[push_cast] theorem IIn.c4 : i.cells[4]? = some (.int .u32 (i.imm.toNat : Int)) := rfl
@[push_cast] theorem IIn.c5 : i.cells[5]? = some (.int .i64 i.csr) := rfl
@[push_cast] theorem IIn.pall : partOf i.cells 0 (some 6) = some (.agg i.cells) := rfl
end
def immK (f3 f7 : Nat) : Nat := if f3 = 0 then 19 else if f3 = 2 then 20 else if f3 = 3 then 21 else if f3 = 4 then 22 else if f3 = 6 then 23 else if f3 = 7 then 24 else if f3 = 1 then (if f7 = 0 then 25 else 0) else if f7 = 0 then 26 else if f7 = 32 then 27 else 0
def regK (f3 f7 : Nat) : Nat := if f7 = 0 then [28, 30, 31, 32, 33, 34, 36, 37].getD f3 0 else if f7 = 1 then 50 + f3 else if f7 = 32 then (if f3 = 0 then 29 else if f3 = 5 then 35 else 0) else 0
def sysK (f3 : Nat) (w : Nat) : Nat := if f3 = 1 ∨ f3 = 2 ∨ f3 = 3 then 41 + f3 else if f3 = 5 ∨ f3 = 6 ∨ f3 = 7 then 40 + f3 else if w = 0x73 then 40 else if w = 0x100073 then 41 else if w = 0x30200073 then 48 else if w = 0x10500073 then 49 else 0
def branchK (f3 : Nat) : Nat := if f3 = 0 ∨ f3 = 1 then 5 + f3 else if f3 = 4 ∨ f3 = 5 ∨ f3 = 6 ∨ f3 = 7 then 3 + f3 else 0
def loadK (f3 : Nat) : Nat := if f3 = 0 ∨ f3 = 1 ∨ f3 = 2 then 11 + f3 else if f3 = 4 ∨ f3 = 5 then 10 + f3 else 0
def kindK (w : BitVec 32) : Nat :=
  let o := fld w 0 7; let f3 := fld w 12 3; let f7 := fld w 25 7
  if o = 0x37 then 1 else if o = 0x17 then 2 else if o = 0x6f then 3 else if o = 0x67 then (if f3 = 0 then 4 else 0) else if o = 0x63 then branchK f3 else if o = 0x03 then loadK f3
  else if o = 0x23 then (if f3 < 3 then 16 + f3 else 0) else if o = 0x13 then immK f3 f7 else if o = 0x33 then regK f3 f7 else if o = 0x0f then (if f3 < 2 then 38 + f3 else 0) else if o = 0x73 then sysK f3 w.toNat else 0
def pats : List (BitVec 32 × BitVec 32) := [(0x0000007f, 0x00000037), (0x0000007f, 0x00000017), (0x0000007f, 0x0000006f), (0x0000707f, 0x00000067), (0x0000707f, 0x00000063), (0x0000707f, 0x00001063), (0x0000707f, 0x00004063), (0x0000707f, 0x00005063), (0x0000707f, 0x00006063), (0x0000707f, 0x00007063), (0x0000707f, 0x00000003), (0x0000707f, 0x00001003), (0x0000707f, 0x00002003), (0x0000707f, 0x00004003), (0x0000707f, 0x00005003), (0x0000707f, 0x00000023), (0x0000707f, 0x00001023), (0x0000707f, 0x00002023), (0x0000707f, 0x00000013), (0x0000707f, 0x00002013), (0x0000707f, 0x00003013), (0x0000707f, 0x00004013), (0x0000707f, 0x00006013), (0x0000707f, 0x00007013), (0xfe00707f, 0x00001013), (0xfe00707f, 0x00005013), (0xfe00707f, 0x40005013), (0xfe00707f, 0x00000033), (0xfe00707f, 0x40000033), (0xfe00707f, 0x00001033), (0xfe00707f, 0x00002033), (0xfe00707f, 0x00003033), (0xfe00707f, 0x00004033), (0xfe00707f, 0x00005033), (0xfe00707f, 0x40005033), (0xfe00707f, 0x00006033), (0xfe00707f, 0x00007033), (0x0000707f, 0x0000000f), (0x0000707f, 0x0000100f), (0xffffffff, 0x00000073), (0xffffffff, 0x00100073), (0x0000707f, 0x00001073), (0x0000707f, 0x00002073), (0x0000707f, 0x00003073), (0x0000707f, 0x00005073), (0x0000707f, 0x00006073), (0x0000707f, 0x00007073), (0xffffffff, 0x30200073), (0xffffffff, 0x10500073), (0xfe00707f, 0x02000033), (0xfe00707f, 0x02001033), (0xfe00707f, 0x02002033), (0xfe00707f, 0x02003033), (0xfe00707f, 0x02004033), (0xfe00707f, 0x02005033), (0xfe00707f, 0x02006033), (0xfe00707f, 0x02007033)]
def hitP (w : BitVec 32) (p : BitVec 32 × BitVec 32) : Bool := decide (w &&& p.1 = p.2)
def hitI (w : BitVec 32) (k : Nat) : Bool := hitP w (pats.getD k (0, 1))
end Go.Ab
end
section
/- What lies in a box may be seen as data; a box may be. -/
set_option linter.unusedSimpArgs false
set_option linter.unusedVariables false
namespace Go.Ab
theorem Le.box {g : Heap} {b : Nat} {cells : List AV} {sp : Nat} (hb : g b = none) : Le (.ptr b 0) (upd g b ⟨cells, sp⟩) (.cp cells 0) g := by
  intro w v hw hr
  have hkc := rep_ptrC hr
  rw [rep_ptr hr]
  obtain ⟨l1, l2, l3, l4⟩ := hrep_new hb hw
  have l4 := l4 hkc
  refine ⟨l1, ?_, l2⟩
  exact .cp cells 0 b 0 (fun i => (w.cell? ⟨b, i, none⟩).getD undef) l3 (fun hd => hd hb) (fun i v hv => by
    obtain ⟨cv, e1, e2, _⟩ := l4 i v hv
    rw [Nat.zero_add, e1]; exact ⟨rfl, e2⟩) (fun i v hv => by
    obtain ⟨cv, e1, _, e3⟩ := l4 i v hv
    rw [e1]; exact e3)
theorem sub_upd {h g : Heap} {b : Nat} {X : Blk} (hb : h b = none) (hs : Sub h g) : Sub h (upd g b X) := by
  intro d y hd
  have : ¬ d = b := fun e => by rw [e, hb] at hd; cases hd
  rw [upd_at, if_neg this]
  exact hs d y hd
theorem le_tup1 {r r' : AV} {h h' : Heap} {k : IntKind} {x : Int} (hl : Le r h r' h') : Le (.tup [r, .int k x]) h (.tup [r', .int k x]) h' := by
  intro w v hw hr
  obtain ⟨cs, rfl, hl1, hr1⟩ := rep_tup hr
  obtain ⟨a, b, rfl⟩ : ∃ a b, cs = #[a, b] := by
    match cs, hl1 with
    | ⟨[a, b]⟩, _ => exact ⟨a, b, rfl⟩
  obtain ⟨x1, x2, x3⟩ := hl w a hw (hr1 0 r a rfl rfl)
  refine ⟨x1, .tup _ _ rfl fun i u c h1 h2 => ?_, x3⟩
  match i with
  | 0 => simp at h1 h2; subst h1; subst h2; exact x2
  | 1 =>
    simp at h1 h2; subst h1; subst h2
    have := hr1 1 (.int k x) b rfl rfl
    rw [rep_int this]; exact .int _ _
  | i + 2 => simp at h1
theorem le_trans {a b c : AV} {h h1 h2 : Heap} (x : Le a h b h1) (y : Le b h1 c h2) : Le a h c h2 := by
  intro w v hw hr
  obtain ⟨p, q, r⟩ := x w v hw hr
  obtain ⟨p', q', r'⟩ := y w v p q
  exact ⟨p', q', fun d hd => r' d (r d hd)⟩
theorem upd_dom {g : Heap} {b : Nat} {x y : Blk} : (upd g b x).dom = (upd g b y).dom := by
  funext c
  simp only [Heap.dom, upd]
  split <;> simp
theorem Le.cell {sz n : Nat} {g h : Heap} {v u : AV} {cells cs cs' : List AV} {b sp : Nat} (ho : Own sz (upd g b ⟨cs, sp⟩) v cells n h) (hl : cs'.length = cs.length)
    (hc : ∀ i : Nat, cs'[i]? = cs[i]? ∨ (cs[i]? = some v ∧ cs'[i]? = some (AV.ro cells n))) : Le u h u (upd g b ⟨cs', sp⟩) := by
  intro w x hw hr
  obtain ⟨l1, l2⟩ := hrep_less hw ho.sub
  have hd : (upd g b ⟨cs', sp⟩).dom = (upd g b ⟨cs, sp⟩).dom := upd_dom
  refine ⟨?_, by rw [hd]; exact hr.keep l2.keeps, fun c hc => ?_⟩
  · intro c y hy
    by_cases e : c = b
    · subst e
      rw [upd_same] at hy
      cases hy
      rcases hw c ⟨cs, sp⟩ (ho.get (upd_same _ _ _)) with ⟨arr, t, e1, e2, e3⟩ | ⟨o, e1, e2, e3⟩
      rotate_left
      · cases e1
        have : cs' = [.raw o] := by
          match cs', hl with
          | [z], _ =>
            rcases hc 0 with q | ⟨q, _⟩
            · simpa using q
            · exfalso
              simp only [List.getElem?_cons_zero, Option.some.injEq] at q
              subst q
              cases ho
        subst this
        exact .inr ⟨o, rfl, e2, e3⟩
      refine .inl ⟨arr, t, e1, by rw [hl]; exact e2, fun i z hz => ?_⟩
      rcases hc i with q | ⟨q1, q2⟩
      · simp only at hz
        rw [q] at hz
        obtain ⟨cv, f1, f2, f3⟩ := e3 i z hz
        exact ⟨cv, f1, f2, by rw [hd]; exact f3.keep l2.keeps⟩
      · simp only at hz
        rw [q2] at hz
        cases hz
        obtain ⟨cv, f1, f2, f3⟩ := e3 i v q1
        refine ⟨cv, f1, f2, ?_⟩
        rw [hd]
        exact (ho.freeze w cv hw f3).2.1
    · rw [upd_ne e] at hy
      exact own_keep (l1 c y (by rw [upd_ne e]; exact hy)) rfl ⟨Nat.le_refl _, fun b _ hn => ⟨by rw [hd]; exact hn, rfl⟩, fun _ h => h⟩
  · have := ho.sub.none hc
    simp only [upd] at this ⊢
    split at this
    · cases this
    · rename_i e; rw [if_neg e]; exact this
theorem wkQ.cell {sz n : Nat} {g h : Heap} {v u : AV} {cells cs cs' : List AV} {b sp : Nat} {K : AV → Heap → Prop} (ho : Own sz (upd g b ⟨cs, sp⟩) v cells n h) (hl : cs'.length = cs.length)
    (hc : ∀ i : Nat, cs'[i]? = cs[i]? ∨ (cs[i]? = some v ∧ cs'[i]? = some (AV.ro cells n))) (hq : K u (upd g b ⟨cs', sp⟩)) : wkQ K u h := ⟨_, _, Le.cell ho hl hc, hq⟩
end Go.Ab
end
section
/- Rows of one's own, one over the other. -/
set_option linter.unusedSimpArgs false
set_option linter.unusedVariables false
namespace Go.Ab
theorem own_lie {sz n : Nat} {g h : Heap} {v : AV} {cells : List AV} (ho : Own sz g v cells n h) (hn : 0 < n) : ∃ b pre cap sp, v = .sl b pre.length n cap ∧ h b = some ⟨pre ++ cells, sp⟩ ∧ g b = none ∧
    (∀ cells', cells'.length = cells.length → Own sz g v cells' n (Ab.upd h b ⟨pre ++ cells', sp⟩)) := by
  cases ho with
  | nil => omega
  | row b n cap pre cells sp hb hl hc =>
    refine ⟨b, pre, cap, sp, rfl, upd_same _ _ _, hb, fun cells' hl' => ?_⟩
    rw [upd_upd]
    exact .row b n cap pre cells' sp hb (by omega) hc
inductive Rows (sz : Nat) (g : Heap) : List AV → List (List AV × Nat) → Heap → Prop
  | nil : Rows sz g [] [] g
  | snoc {vs ms h1 v cells n h} (hr : Rows sz g vs ms h1) (ho : Own sz h1 v cells n h) : Rows sz g (vs ++ [v]) (ms ++ [(cells, n)]) h
variable {sz : Nat} {g h : Heap} {vs : List AV} {ms : List (List AV × Nat)}
theorem Rows.sub (hr : Rows sz g vs ms h) : Sub g h := by
  induction hr with
  | nil => exact .refl _
  | snoc hr ho ih => exact ih.trans ho.sub
theorem Rows.len (hr : Rows sz g vs ms h) : vs.length = ms.length := by
  induction hr with
  | nil => rfl
  | snoc hr ho ih => simp [ih]
theorem Rows.upd {b : Nat} {x : Blk} (hr : Rows sz g vs ms h) (hb : h b = none ∨ ∃ y, g b = some y) : Rows sz (Ab.upd g b x) vs ms (Ab.upd h b x) := by
  induction hr with
  | nil => exact .nil
  | snoc hr ho ih =>
    rcases hb with hb | ⟨y, hy⟩
    · exact .snoc (ih (.inl (ho.sub.none hb))) (ho.upd (.inl hb))
    · exact .snoc (ih (.inr ⟨y, hy⟩)) (ho.upd (.inr ⟨y, hr.sub b y hy⟩))
theorem Rows.lie (hr : Rows sz g vs ms h) : ∀ (k : Nat) (v : AV) (cells : List AV) (n : Nat), vs[k]? = some v → ms[k]? = some (cells, n) → 0 < n →
    ∃ b pre cap sp, v = .sl b pre.length n cap ∧ h b = some ⟨pre ++ cells, sp⟩ ∧ g b = none ∧ ∀ cells', cells'.length = cells.length → Rows sz g vs (ms.set k (cells', n)) (Ab.upd h b ⟨pre ++ cells', sp⟩) := by
  induction hr with
  | nil => intro k v cells n hv; simp at hv
  | @snoc vs ms h1 v0 cells0 n0 h hr ho ih =>
    intro k v cells n hv hm hn
    have hl := hr.len
    by_cases hk : k < vs.length
    · rw [List.getElem?_append_left hk] at hv
      rw [List.getElem?_append_left (by omega)] at hm
      obtain ⟨b, pre, cap, sp, e1, e2, e3, e4⟩ := ih k v cells n hv hm hn
      refine ⟨b, pre, cap, sp, e1, ho.get e2, e3, fun cells' hc => ?_⟩
      rw [List.set_append_left _ _ (by omega)]
      exact .snoc (e4 cells' hc) (ho.upd (.inr ⟨_, e2⟩))
    · rw [List.getElem?_append_right (by omega)] at hv
      rw [List.getElem?_append_right (by omega)] at hm
      have hk0 : k - vs.length = 0 := by
        cases hj : k - vs.length with
        | zero => rfl
        | succ j => rw [hj] at hv; simp at hv
      rw [hk0] at hv
      rw [← hl, hk0] at hm
      simp only [List.getElem?_cons_zero, Option.some.injEq, Prod.mk.injEq] at hv hm
      obtain ⟨rfl, rfl⟩ := hm
      subst hv
      obtain ⟨b, pre, cap, sp, e1, e2, e3, e4⟩ := own_lie ho hn
      refine ⟨b, pre, cap, sp, e1, e2, hr.sub.none e3, fun cells' hc => ?_⟩
      rw [List.set_append_right _ _ (by omega), ← hl, hk0]
      exact .snoc hr (e4 cells' hc)
theorem Rows.alen (hr : Rows sz g vs ms h) : ∀ (k : Nat) (v : AV) (cells : List AV) (n : Nat), vs[k]? = some v → ms[k]? = some (cells, n) → Ab.alen v = some n := by
  induction hr with
  | nil => intro k v cells n hv; simp at hv
  | @snoc vs ms h1 v0 cells0 n0 h hr ho ih =>
    intro k v cells n hv hm
    have hl := hr.len
    by_cases hk : k < vs.length
    · rw [List.getElem?_append_left hk] at hv
      rw [List.getElem?_append_left (by omega)] at hm
      exact ih k v cells n hv hm
    · rw [List.getElem?_append_right (by omega)] at hv
      rw [List.getElem?_append_right (by omega)] at hm
      have hk0 : k - vs.length = 0 := by
        cases hj : k - vs.length with
        | zero => rfl
        | succ j => rw [hj] at hv; simp at hv
      rw [hk0] at hv
      rw [← hl, hk0] at hm
      simp only [List.getElem?_cons_zero, Option.some.injEq, Prod.mk.injEq] at hv hm
      obtain ⟨rfl, rfl⟩ := hm
      subst hv
      exact ho.alen
theorem Rows.rep {w : World} (hr : Rows sz g vs ms h) : HRep w h → ∀ (k : Nat) (v : AV) (cells : List AV) (n : Nat) (cv : Value), vs[k]? = some v → ms[k]? = some (cells, n) → Rep w h.dom v cv → Rep w g.dom (.ro cells n) cv := by
  induction hr with
  | nil => intro _ k v cells n cv hv; simp at hv
  | @snoc vs ms h1 v0 cells0 n0 h hr ho ih =>
    intro hw k v cells n cv hv hm hrep
    have hl := hr.len
    obtain ⟨l1, l2⟩ := hrep_less hw ho.sub
    by_cases hk : k < vs.length
    · rw [List.getElem?_append_left hk] at hv
      rw [List.getElem?_append_left (by omega)] at hm
      exact ih l1 k v cells n cv hv hm (hrep.keep l2.keeps)
    · rw [List.getElem?_append_right (by omega)] at hv
      rw [List.getElem?_append_right (by omega)] at hm
      have hk0 : k - vs.length = 0 := by
        cases hj : k - vs.length with
        | zero => rfl
        | succ j => rw [hj] at hv; simp at hv
      rw [hk0] at hv
      rw [← hl, hk0] at hm
      simp only [List.getElem?_cons_zero, Option.some.injEq, Prod.mk.injEq] at hv hm
      obtain ⟨rfl, rfl⟩ := hm
      subst hv
      have := (ho.freeze w cv hw hrep).2.1
      obtain ⟨_, k2⟩ := hrep_less l1 hr.sub
      exact this.keep k2.keeps
theorem Rows.freeze {u : AV} {cs cs' : List AV} {b sp : Nat} (hr : Rows sz (Ab.upd g b ⟨cs, sp⟩) vs ms h) (hl : cs'.length = cs.length)
    (hc : ∀ i : Nat, cs'[i]? = cs[i]? ∨ ∃ (k : Nat) (v : AV) (cells : List AV) (n : Nat), vs[k]? = some v ∧ ms[k]? = some (cells, n) ∧ cs[i]? = some v ∧ cs'[i]? = some (AV.ro cells n)) : Le u h u (Ab.upd g b ⟨cs', sp⟩) := by
  intro w x hw hx
  obtain ⟨l1, l2⟩ := hrep_less hw hr.sub
  have hd : (Ab.upd g b ⟨cs', sp⟩).dom = (Ab.upd g b ⟨cs, sp⟩).dom := upd_dom
  refine ⟨?_, by rw [hd]; exact hx.keep l2.keeps, fun c hc => ?_⟩
  · intro c y hy
    by_cases e : c = b
    · subst e
      rw [upd_same] at hy
      cases hy
      rcases hw c ⟨cs, sp⟩ (hr.sub c _ (upd_same _ _ _)) with ⟨arr, t, e1, e2, e3⟩ | ⟨o, ho1, ho2, ho3⟩
      rotate_left
      · simp only [Blk.mk.injEq] at ho1
        obtain ⟨rfl, rfl⟩ := ho1
        match cs', hl with
        | [z], _ =>
          rcases hc 0 with q | ⟨k, v, cells, n, q1, q2, q3, q4⟩
          · simp only [List.getElem?_cons_zero, Option.some.injEq] at q
            subst q
            exact .inr ⟨o, rfl, ho2, ho3⟩
          · simp only [List.getElem?_cons_zero, Option.some.injEq] at q3
            subst q3
            have := hr.alen k _ cells n q1 q2
            cases this
      refine .inl ⟨arr, t, e1, by rw [hl]; exact e2, fun i z hz => ?_⟩
      rcases hc i with q | ⟨k, v, cells, n, q1, q2, q3, q4⟩
      · simp only at hz
        rw [q] at hz
        obtain ⟨cv, f1, f2, f3⟩ := e3 i z hz
        exact ⟨cv, f1, f2, by rw [hd]; exact f3.keep l2.keeps⟩
      · simp only at hz
        rw [q4] at hz
        cases hz
        obtain ⟨cv, f1, f2, f3⟩ := e3 i v q3
        exact ⟨cv, f1, f2, by rw [hd]; exact hr.rep hw k v cells n cv q1 q2 f3⟩
    · rw [upd_ne e] at hy
      rcases l1 c y (by rw [upd_ne e]; exact hy) with ⟨arr, t, e1, e2, e3⟩ | q
      · exact .inl ⟨arr, t, e1, e2, fun i v hv => by rw [hd]; exact e3 i v hv⟩
      · exact .inr q
  · have := hr.sub.none hc
    simp only [Ab.upd] at this ⊢
    split at this
    · cases this
    · rename_i e; rw [if_neg e]; exact this
theorem own_swap {s1 s2 n1 n2 : Nat} {h1 : Heap} {v1 v2 : AV} {c1 c2 : List AV} (o1 : Own s1 g v1 c1 n1 h1) (o2 : Own s2 h1 v2 c2 n2 h) : ∃ h2, Own s2 g v2 c2 n2 h2 ∧ Own s1 h2 v1 c1 n1 h := by
  cases o1 with
  | nil => exact ⟨_, o2, .nil⟩
  | row b _ cap pre _ sp hb hl hc =>
    cases o2 with
    | nil => exact ⟨_, .nil, .row b n1 cap pre c1 sp hb hl hc⟩
    | row b' _ cap' pre' _ sp' hb' hl' hc' =>
      have hne := upd_none hb'
      refine ⟨_, .row b' n2 cap' pre' c2 sp' hne.2 hl' hc', ?_⟩
      rw [upd_comm (fun e => hne.1 e.symm)]
      exact .row b n1 cap pre c1 sp (by rw [upd_ne (fun e => hne.1 e.symm)]; exact hb) hl hc
end Go.Ab
end
section
/- A region of open order by what holds behind each of its operations, whichever were ahead. -/
set_option linter.unusedSimpArgs false
set_option linter.unusedVariables false
namespace Go.Ab
def altB : OT → Bool → Bool
  | .nil, _ => true
  | _, b => b
def wlk (es R R2 : List Nat) (D : Nat → List Nat) : OT → List Nat → Bool
  | .nil, pre => es.all pre.contains
  | .r i t, pre => es.contains i && !pre.contains i && (D i).all pre.contains && wlk es R R2 D t (i :: pre)
  | .e i fl t alt, pre => (es.contains i && !pre.contains i && (D i).all pre.contains && (fl.all fun j => R.contains j || (R2.contains j && pre.contains j)) && wlk es R R2 D t (i :: pre)) && altB alt (wlk es R R2 D alt pre)
theorem dwpT_inv {P : Program} {G : Glo} {ops : List AOp} {es R R2 : List Nat} {D : Nat → List Nat} {I : List Nat → Env → Heap → Prop} {Q : Env → Heap → Prop}
    (hs : ∀ i ∈ es, ∀ (fl pre : List Nat) (ρ : Env) (h : Heap) (K : Env → Heap → Prop), (∀ j ∈ fl, j ∈ R ∨ (j ∈ R2 ∧ j ∈ pre)) → i ∉ pre → (∀ j ∈ D i, j ∈ pre) → I pre ρ h → (∀ ρ' h', I (i :: pre) ρ' h' → K ρ' h') → bindO ops[i]? fun o => dst P G o ρ h (stbC G ops fl ρ) K)
    (hq : ∀ pre ρ h, (∀ j ∈ es, j ∈ pre) → I pre ρ h → Q ρ h) : ∀ (t : OT) (pre : List Nat) (ρ : Env) (h : Heap), wlk es R R2 D t pre = true → I pre ρ h → dwpT P G ops Q t ρ h := by
  intro t
  induction t with
  | nil =>
    intro pre ρ h hw hI
    simp only [wlk, List.all_eq_true, List.contains_iff_mem] at hw
    rw [dwpT_nil]
    exact hq pre ρ h hw hI
  | r i t ih =>
    intro pre ρ h hw hI
    simp only [wlk, Bool.and_eq_true, Bool.not_eq_true', List.all_eq_true, List.contains_iff_mem] at hw
    obtain ⟨⟨⟨w1, w2⟩, w3⟩, w4⟩ := hw
    have w2' : i ∉ pre := fun q => by rw [← List.contains_iff_mem, w2] at q; cases q
    have := hs i w1 [] pre ρ h (dwpT P G ops Q t) (fun j q => by cases q) w2' w3 hI fun ρ' h' q => ih _ ρ' h' w4 q
    rw [dwpT_r]
    exact this
  | e i fl t alt ih1 ih2 =>
    intro pre ρ h hw hI
    simp only [wlk, Bool.and_eq_true, Bool.not_eq_true', List.all_eq_true, List.contains_iff_mem, Bool.or_eq_true] at hw
    obtain ⟨⟨⟨⟨⟨w1, w2⟩, w3⟩, w5⟩, w4⟩, w6⟩ := hw
    have w2' : i ∉ pre := fun q => by rw [← List.contains_iff_mem, w2] at q; cases q
    have := hs i w1 fl pre ρ h (dwpT P G ops Q t) w5 w2' w3 hI fun ρ' h' q => ih1 _ ρ' h' w4 q
    rw [dwpT_e]
    refine ⟨this, ?_⟩
    cases alt with
    | nil => rw [altC_nil]; trivial
    | r j u => exact ih2 pre ρ h w6 hI
    | e j fl' u a' => rw [altC_e]; exact ih2 pre ρ h w6 hI
def opsOf : ACode → List AOp
  | .dregt ops _ _ => ops
  | _ => []
def edgOf : ACode → List (List Nat)
  | .dregt _ es _ => es
  | _ => []
theorem stb_of {G : Glo} {ops : List AOp} {ρ : Env} {h : Heap} {S : List Nat} (hp : ∀ j ∈ S, bindO ops[j]? fun o => pend G o ρ h) : ∀ fl : List Nat, (∀ j ∈ fl, j ∈ S) → stb G ops ρ h fl := by
  intro fl
  induction fl with
  | nil => intro _; trivial
  | cons j r ih =>
    intro hf
    refine ⟨?_, ih fun i hi => hf i (by simp [hi])⟩
    have := hp j (hf j (by simp))
    revert this
    unfold bindO
    cases ops[j]? <;> exact id
end Go.Ab
end
section
/- The code of some functions, with what their types tell written out; each is what the translation gives (kernel_rfl). Printed by mk.py out of the translation. -/
namespace Go.Ab
open Go.Proofs Go.Sc
set_option maxRecDepth 100000
abbrev C4_0 := Ro [Br 3 t0,Br 5 t2,As 6 kF]
abbrev C4_1 := Ro [Ld 11 (some 4) t3,Ca 12 7 [t11],Un 13 .not t12,Mv 14 t13,Ldf 15 14 (some 4) t3,Caf 16 14 13 [t15],Bnf 17 14 .neq t16 (kI 0),Pk 18 t14 kT t17,Mv 19 t18,Faf 20 19 32 t5,Ldf 21 19 none t20,Caf 22 19 19 [t21],Unf 23 19 .not t22,Pk 24 t19 kT t23,Mv 25 t24,Faf 26 25 32 t5,Ldf 27 25 none t26,Bnf 28 25 .gtr t27 (kI 1024),Pk 29 t25 kT t28,Mv 30 t29,Faf 31 30 33 t5,Ldf 32 30 none t31,Lnf 33 30 t32,Faf 34 30 32 t5,Ldf 35 30 none t34,Bnf 36 30 .gtr t33 t35,Pk 37 t30 kT t36,Mv 38 t37,Faf 39 38 0 t5,⟨(some 40),(some (38,false)),.r (.ixa 32 1 t39 (kI 0))⟩,Ldf 41 38 none t40,Bnf 42 38 .neq t41 (kU 0),Pk 43 t38 kT t42]
abbrev C4_2 := Ro [Ca 44 8 [],As 6 t44]
abbrev C4_3 := Sq [6] C4_2 .ret
abbrev C4_4 := Cd t43 C4_3 .skip
abbrev C4_5 := Sq [1,3,5,43] C4_1 C4_4
abbrev C4_6 := Ro [Ld 46 (some 4) t3,Ca 47 9 [t46],Mv 48 t1,Ca 49 11 [t47,t48],Mv 45 t49,Ex 50 0 t45,Ex 51 1 t45,As 7 t50,As 8 t51]
abbrev C4_7 := Ro [Mv 52 t7,Ca 53 16 [t52],Al 9 [.nils,.nils,.nils,zi],Sxn 4 t9 t53]
abbrev C4_8 := Dr [Mv 54 t8,Bn 55 .neq t54 (kI 0),Mv 56 t55,Ldf 57 56 (some 4) t9,Caf 58 56 13 [t57],Bnf 59 56 .neq t58 (kI 0),Pk 60 t56 kT t59,Mv 61 t60,Ldf 62 61 (some 4) t9,Caf 63 61 14 [t62],Ldf 64 61 (some 4) t3,Caf 65 61 14 [t64],Bnf 66 61 .gtr t63 t65,Pk 67 t61 kT t66] [[],[0],[1],[2],[3,2,2],[4,2],[2,5],[6,4],[7],[8,7,7],[7],[10,9,7],[9,11,7],[7,12]] [(0,[]),(1,[]),(2,[]),(3,[]),(4,[]),(5,[]),(6,[]),(7,[]),(8,[]),(10,[]),(9,[10]),(11,[]),(12,[]),(13,[])]
abbrev C4_9 := Ro [As 6 kF]
abbrev C4_10 := Sq [6] C4_9 .ret
abbrev C4_11 := Cd t67 C4_10 .skip
abbrev C4_12 := Sq [3,5,9,67] C4_8 C4_11
abbrev C4_13 := Ro [Ld 68 (some 35) t5,Ca 69 20 [t68],Al 10 [.nils,.nils,.nils],Sxn 3 t10 t69]
abbrev C4_14 := Dr [Ld 70 (some 4) t3,Fa 71 0 t5,Ld 72 (some 32) t71,Ld 73 (some 3) t10,Ca 74 22 [t70,t72,t73],Ld 75 (some 4) t9,Fa 76 0 t5,Ld 77 (some 32) t76,Ld 78 (some 3) t10,Ca 79 22 [t75,t77,t78],Ca 80 21 [t74,t79],Mv 81 t80,Cat 82 81 8 [],Pk 83 t81 t82 kF,As 6 t83] [[],[],[1],[],[0,2,3],[],[],[6],[],[5,7,8,4],[4,9,9],[10,10],[11,11],[11,12],[13,12,0,1,2,3,4,5,6,7,8,9,10,11,12,13]] [(0,[]),(1,[]),(2,[]),(3,[]),(5,[]),(6,[]),(7,[]),(8,[]),(4,[5,6,7,8]),(9,[]),(10,[]),(11,[]),(12,[]),(13,[]),(14,[])]
abbrev C4_15 := Sq [6] C4_14 .ret
abbrev C4_16 : ACode := .fz 10 C4_15
abbrev C4_17 := Sq [3,5,9,10] C4_13 C4_16
abbrev C4_18 := Sq [3,5,9] C4_12 C4_17
abbrev C4_19 : ACode := .fz 9 C4_18
abbrev C4_20 := Sq [3,5,8,9] C4_7 C4_19
abbrev C4_21 := Sq [3,5,7,8] C4_6 C4_20
abbrev C4_22 := Sq [1,3,5] C4_5 C4_21
abbrev C4_23 := Sq [1,3,5] C4_0 C4_22
abbrev C4 := C4_23
abbrev C4r : List RV := [.t 6]
theorem C4ok : Okf Tryz.prog 4 Tryz.f4 C4 C4r := ⟨Tryz.func4, by kernel_rfl, by kernel_rfl, by kernel_rfl⟩

abbrev C7_0 := Ro [Br 1 t0,As 2 kF]
abbrev C7_1 := Ro [Fa 4 0 t1,Ld 5 none t4,Ln 6 t5,Bn 7 .gtr t6 (kI 100),Mv 8 t7,Faf 9 8 1 t1,Ldf 10 8 none t9,Lnf 11 8 t10,Bnf 12 8 .gtr t11 (kI 100),Mvf 13 8 t12,Fat 14 13 1 t1,Ldt 15 13 none t14,Lnt 16 13 t15,Bnt 17 13 .leq t16 (kI 512),Pkf 18 8 t13 t17 kF,Pk 19 t8 kT t18,Mv 20 t19,Faf 21 20 1 t1,Ldf 22 20 none t21,Lnf 23 20 t22,Bnf 24 20 .gtr t23 (kI 600),Pk 25 t20 kT t24,Mv 26 t25,Faf 27 26 2 t1,Ldf 28 26 none t27,Lnf 29 26 t28,Bnf 30 26 .gtr t29 (kI 200),Pk 31 t26 kT t30]
abbrev C7_2 := Ro [As 2 kF]
abbrev C7_3 := Sq [2] C7_2 .ret
abbrev C7_4 := Cd t31 C7_3 .skip
abbrev C7_5 := Sq [1,31] C7_1 C7_4
abbrev C7_6 := Ro [As 3 (kI 0)]
abbrev C7_7 := Ro [Mv 32 t3,Fa 33 2 t1,Ld 34 none t33,Ln 35 t34,Bn 36 .lss t32 t35]
abbrev C7_8 := Cd t36 .skip (.exit 0)
abbrev C7_9 := Sq [1,3,36] C7_7 C7_8
abbrev C7_10 := Ro [Fa 39 2 t1,Ld 40 none t39,Mv 41 t3,Ix 42 5 t40 t41,Fa 43 4 t42,Ld 44 none t43,Ln 45 t44,Bn 46 .gtr t45 (kI 100)]
abbrev C7_11 := Ro [As 2 kF]
abbrev C7_12 := Sq [2] C7_11 .ret
abbrev C7_13 := Cd t46 C7_12 .skip
abbrev C7_14 := Sq [1,3,46] C7_10 C7_13
abbrev C7_15 := Bk 1 C7_14
abbrev C7_16 := Ro [Mv 37 t3,Bn 38 .add t37 (kI 1),As 3 t38]
abbrev C7_17 := Sq [1,3] C7_15 C7_16
abbrev C7_18 := Sq [1,3] C7_9 C7_17
abbrev C7_19 : ACode := .loop C7_18
abbrev C7_20 := Bk 0 C7_19
abbrev C7_21 := Sq [1,3] C7_6 C7_20
abbrev C7_22 := Ro [As 2 kT]
abbrev C7_23 := Sq [2] C7_22 .ret
abbrev C7_24 := Sq [] C7_21 C7_23
abbrev C7_25 := Sq [1] C7_5 C7_24
abbrev C7_26 := Sq [1] C7_0 C7_25
abbrev C7 := C7_26
abbrev C7r : List RV := [.t 2]
theorem C7ok : Okf Tryz.prog 7 Tryz.f7 C7 C7r := ⟨Tryz.func7, by kernel_rfl, by kernel_rfl, by kernel_rfl⟩

abbrev C8_0 := Ro [As 0 kF]
abbrev C8_1 := Ro [⟨(some 4),none,.e (.bsr 1 [.int .u32 0] [(0,1,(kU 0))])⟩,⟨(some 5),none,.r (.bld [zi,zi,zi,z4,zi,zi] [(0,1,(kI 1)),(3,1,(kU 1))])⟩,⟨(some 6),none,.r (.bld [zi,zi,zi,z4,zi,zi] [(0,1,(kI 2))])⟩,⟨(some 7),none,.r (.bld [zi,zi,zi,z4,zi,zi] [(0,1,(kI 3)),(3,1,(kU 28)),(2,1,(kI 1))])⟩,⟨(some 8),none,.e (.bsr 3 [zi,zi,zi,z4,zi,zi,zi,zi,zi,z4,zi,zi,zi,zi,zi,z4,zi,zi] [(0,6,t5),(6,6,t6),(12,6,t7)])⟩,⟨(some 9),none,.r (.bld [.int .i64 0,.int .i64 0] [(0,1,(kI 1)),(1,1,(kI 2))])⟩,⟨(some 10),none,.e (.bsr 1 [.int .i64 0,.int .i64 0] [(0,2,t9)])⟩,⟨(some 11),none,.r (.bld [zi,z4,zi,zi,.nils] [(0,1,(kI 1)),(2,1,(kI (-1))),(3,1,(kI 4)),(4,1,t10)])⟩,⟨(some 12),none,.e (.bsr 1 [zi,z4,zi,zi,.nils] [(0,5,t11)])⟩,⟨(some 13),none,.r (.bld [.nils,.nils,.nils,zi] [(0,1,t4),(1,1,t8),(2,1,t12)])⟩,⟨(some 14),none,.e (.box t13)⟩,As 1 t14]
abbrev C8_2 := Ro [Mv 16 t1,Ca 17 11 [t16,(kI 15)],Mv 15 t17,Ex 18 0 t15,Ex 19 1 t15,As 2 t18,As 3 t19]
abbrev C8_3 := Ro [Mv 20 t3,Bn 21 .eql t20 (kI 0),Mv 22 t21,Mvt 23 22 t2,Ept 24 22 true t23 kP,Pk 25 t22 t24 kF,Mv 26 t25,Mvt 27 26 t2,Nct 28 26 t27,Fat 29 26 1 t28,Ldt 30 26 none t29,Lnt 31 26 t30,Bnt 32 26 .eql t31 (kI 0),Pk 33 t26 t32 kF,Mv 34 t33,Mvt 35 34 t1,Cat 36 34 12 [t35],Bnt 37 34 .eql t36 (kI 5),Pk 38 t34 t37 kF,Mv 39 t38,Mvt 40 39 t2,Cat 41 39 12 [t40],Bnt 42 39 .eql t41 (kI 1),Pk 43 t39 t42 kF,As 0 t43]
abbrev C8_4 := Sq [0] C8_3 .ret
abbrev C8_5 := Sq [1,2,3] C8_2 C8_4
abbrev C8_6 : ACode := .wk 1 C8_5
abbrev C8_7 := Sq [1] C8_1 C8_6
abbrev C8_8 := Sq [] C8_0 C8_7
abbrev C8 := C8_8
abbrev C8r : List RV := [.t 0]
theorem C8ok : Okf Tryz.prog 8 Tryz.f8 C8 C8r := ⟨Tryz.func8, by kernel_rfl, by kernel_rfl, by kernel_rfl⟩

abbrev C9_0 := Ro [Br 1 t0,As 2 kP]
abbrev C9_1 := Ro [Fa 9 0 t1,Ld 10 none t9,Fa 11 3 t1,Ld 12 none t11,⟨(some 13),none,.r (.bld [.nils,.nils,.nils,zi] [(0,1,t10),(3,1,t12)])⟩,⟨(some 14),none,.e (.box t13)⟩,As 3 t14]
abbrev C9_2 := Ro [As 4 (kI 0)]
abbrev C9_3 := Ro [Mv 15 t4,Fa 16 1 t1,Ld 17 none t16,Ln 18 t17,Bn 19 .lss t15 t18]
abbrev C9_4 := Cd t19 .skip (.exit 0)
abbrev C9_5 := Sq [1,3,4,19] C9_3 C9_4
abbrev C9_6 := Dr [Mv 22 t3,Mv 23 t3,Nc 24 t23,Fa 25 1 t24,Ld 26 none t25,Fa 27 1 t1,Ld 28 none t27,Mv 29 t4,Ix 30 6 t28 t29,Ld 31 (some 6) t30,⟨(some 32),none,.e (.bsr 1 [zi,zi,zi,z4,zi,zi] [(0,6,t31)])⟩,Ap 33 6 48 t26 t32,Nc 34 t22,Fa 35 1 t34,Sxn 1 t35 t33] [[],[],[1],[2],[3],[],[5],[],[6,7],[8],[9],[4,10],[0,0,1,2,3,4,5,6,7,8,9,10,11],[12,0,1,2,3,4,5,6,7,8,9,10,11],[13,11,11,0,1,2,3,4,5,6,7,8,9,10,11]] [(0,[]),(1,[]),(2,[]),(3,[]),(4,[]),(5,[]),(6,[]),(7,[]),(8,[]),(9,[]),(10,[0,1,2,3,4]),(11,[0]),(12,[]),(13,[]),(14,[])]
abbrev C9_7 := Bk 1 C9_6
abbrev C9_8 := Ro [Mv 20 t4,Bn 21 .add t20 (kI 1),As 4 t21]
abbrev C9_9 := Sq [1,3,4] C9_7 C9_8
abbrev C9_10 := Sq [1,3,4] C9_5 C9_9
abbrev C9_11 : ACode := .loop C9_10
abbrev C9_12 := Bk 0 C9_11
abbrev C9_13 := Sq [1,3,4] C9_2 C9_12
abbrev C9_14 := Ro [As 5 (kI 0)]
abbrev C9_15 := Ro [Mv 36 t5,Fa 37 2 t1,Ld 38 none t37,Ln 39 t38,Bn 40 .lss t36 t39]
abbrev C9_16 := Cd t40 .skip (.exit 2)
abbrev C9_17 := Sq [1,3,5,40] C9_15 C9_16
abbrev C9_18 := Ro [Fa 43 2 t1,Ld 44 none t43,Mv 45 t5,Ix 46 5 t44 t45,Ld 47 (some 5) t46,Al 6 [zi,z4,zi,zi,.nils],Sxn 5 t6 t47]
abbrev C9_19 := Ro [Fa 48 0 t6,Ld 49 none t48,Fa 50 1 t6,Ld 51 none t50,Fa 52 2 t6,Ld 53 none t52,Fa 54 3 t6,Ld 55 none t54,⟨(some 56),none,.r (.bld [zi,z4,zi,zi,.nils] [(0,1,t49),(1,1,t51),(2,1,t53),(3,1,t55)])⟩,Al 7 [zi,z4,zi,zi,.nils],Sxn 5 t7 t56]
abbrev C9_20 := Ro [As 8 (kI 0)]
abbrev C9_21 := Ro [Mv 57 t8,Fa 58 4 t6,Ld 59 none t58,Ln 60 t59,Bn 61 .lss t57 t60]
abbrev C9_22 := Cd t61 .skip (.exit 4)
abbrev C9_23 := Sq [1,3,5,6,7,8,61] C9_21 C9_22
abbrev C9_24 := Dr [Fa 64 4 t7,Ld 65 none t64,Fa 66 4 t6,Ld 67 none t66,Mv 68 t8,Ix 69 2 t67 t68,Ld 70 (some 2) t69,⟨(some 71),none,.e (.bsr 1 [.int .i64 0,.int .i64 0] [(0,2,t70)])⟩,Ap 72 2 16 t65 t71,Fa 73 4 t7,Sxn 1 t73 t72] [[],[0],[],[2],[],[3,4],[5],[6],[1,7],[0,1,2,3,4,5,6,7,8],[9,8,8,0,1,2,3,4,5,6,7,8]] [(0,[]),(1,[]),(2,[]),(3,[]),(4,[]),(5,[]),(6,[]),(7,[0,1]),(8,[]),(9,[]),(10,[])]
abbrev C9_25 := Bk 5 C9_24
abbrev C9_26 := Ro [Mv 62 t8,Bn 63 .add t62 (kI 1),As 8 t63]
abbrev C9_27 := Sq [1,3,5,6,7,8] C9_25 C9_26
abbrev C9_28 := Sq [1,3,5,6,7,8] C9_23 C9_27
abbrev C9_29 : ACode := .loop C9_28
abbrev C9_30 := Bk 4 C9_29
abbrev C9_31 := Sq [1,3,5,6,7,8] C9_20 C9_30
abbrev C9_32 := Dr [Mv 74 t3,Mv 75 t3,Nc 76 t75,Fa 77 2 t76,Ld 78 none t77,Ld 79 (some 5) t7,⟨(some 80),none,.e (.bsr 1 [zi,z4,zi,zi,.nils] [(0,5,t79)])⟩,Ap 81 5 56 t78 t80,Nc 82 t74,Fa 83 2 t82,Sxn 1 t83 t81] [[],[],[1],[2],[3],[],[5],[4,6],[0,0,1,2,3,4,5,6,7],[8,0,1,2,3,4,5,6,7],[9,7,7,0,1,2,3,4,5,6,7]] [(0,[]),(1,[]),(2,[]),(3,[]),(4,[]),(5,[]),(6,[0,1,2,3,4]),(7,[0]),(8,[]),(9,[]),(10,[])]
abbrev C9_33 : ACode := .wk 7 C9_32
abbrev C9_34 := Sq [1,3,5,7] C9_31 C9_33
abbrev C9_35 := Sq [1,3,5,6,7] C9_19 C9_34
abbrev C9_36 : ACode := .fz 6 C9_35
abbrev C9_37 := Sq [1,3,5,6] C9_18 C9_36
abbrev C9_38 := Bk 3 C9_37
abbrev C9_39 := Ro [Mv 41 t5,Bn 42 .add t41 (kI 1),As 5 t42]
abbrev C9_40 := Sq [1,3,5] C9_38 C9_39
abbrev C9_41 := Sq [1,3,5] C9_17 C9_40
abbrev C9_42 : ACode := .loop C9_41
abbrev C9_43 := Bk 2 C9_42
abbrev C9_44 := Sq [1,3,5] C9_14 C9_43
abbrev C9_45 := Ro [Mv 84 t3,As 2 t84]
abbrev C9_46 := Sq [2] C9_45 .ret
abbrev C9_47 : ACode := .wk 3 C9_46
abbrev C9_48 := Sq [3] C9_44 C9_47
abbrev C9_49 : ACode := .wk 3 C9_48
abbrev C9_50 := Sq [1,3] C9_13 C9_49
abbrev C9_51 := Sq [1,3] C9_1 C9_50
abbrev C9_52 := Sq [1] C9_0 C9_51
abbrev C9 := C9_52
abbrev C9r : List RV := [.t 2]
theorem C9ok : Okf Tryz.prog 9 Tryz.f9 C9 C9r := ⟨Tryz.func9, by kernel_rfl, by kernel_rfl, by kernel_rfl⟩

abbrev C10_0 := Ro [Al 4 [.nilp],Al 5 [.int .i64 0]]
abbrev C10_1 := Ro [Mv 11 t0,Ca 12 30 [t11],As 6 t12]
abbrev C10_2 := Ro [Mv 13 t6,Bn 14 .neq t13 (kI 0)]
abbrev C10_3 := Ro [Mv 15 t6,Sxn 1 t4 kP,Sxn 1 t5 t15]
abbrev C10_4 := Sq [4,5] C10_3 .ret
abbrev C10_5 := Cd t14 C10_4 .skip
abbrev C10_6 := Ro [Mv 16 t0,Ca 17 31 [t16],Al 7 [.nilp],Sxn 1 t7 t17]
abbrev C10_7 := Ro [Mv 18 t1,Ca 19 32 [t18]]
abbrev C10_8 := Ro [Ld 31 none t7,Sxn 1 t4 t31,Sxn 1 t5 (kI 0)]
abbrev C10_9 := Ro [As 8 t20]
abbrev C10_10 := Ro [Mv 22 t8,Ld 23 none t7,Ca 24 33 [t22,t23],Mv 21 t24,Ex 25 0 t21,Ex 26 1 t21,As 9 t25,As 10 t26]
abbrev C10_11 := Ro [Mv 27 t10,Bn 28 .neq t27 (kI 0)]
abbrev C10_12 := Ro [Mv 29 t10,Sxn 1 t4 kP,Sxn 1 t5 t29]
abbrev C10_13 := Sq [4,5] C10_12 .ret
abbrev C10_14 := Cd t28 C10_13 .skip
abbrev C10_15 := Sq [4,5,7,9,10,28] C10_11 C10_14
abbrev C10_16 := Ro [Mv 30 t9,Sxn 1 t7 t30]
abbrev C10_17 := Sq [7,9] C10_15 C10_16
abbrev C10_18 := Sq [4,5,7,9,10] C10_10 C10_17
abbrev C10_19 := Bk 1 C10_18
abbrev C10A : List (List Nat × ACode) := [([0,1,4,5],C10_0),([0,1,4,5,6],C10_1),([0,1,4,5,6,14],C10_2),([0,1,4,5],C10_5),([1,4,5,7],C10_6),([4,5,7,19],C10_7)]
abbrev C10Z : List (List Nat × ACode) := [([4,5],C10_8),([4,5],.ret)]
abbrev C10X : ACode := C10_9
abbrev C10 := C10_19
abbrev C10r : List RV := [.c 4 none,.c 5 none]

theorem C10ok : Okr Tryz.prog 10 Tryz.f10 C10A 0 19 [20] C10X C10 C10Z C10r := ⟨Tryz.func10, by kernel_rfl, by kernel_rfl, by kernel_rfl⟩

abbrev C11_0 := Ro [As 4 kP,As 5 (kI 0)]
abbrev C11_1 := Ro [Mv 9 t0,As 6 t9]
abbrev C11_2 := Ro [Mv 10 (kI 0)]
abbrev C11_3 := Ro [Bn 11 .lss t10 (kI 8)]
abbrev C11_4 := Cd t11 .skip (.exit 0)
abbrev C11_5 := Ro [Mv 13 t6,Mv 14 t1,Ca 15 10 [t13,t14],Mv 12 t15,Ex 16 0 t12,Ex 17 1 t12,As 7 t16,As 8 t17]
abbrev C11_6 := Ro [Mv 18 t8,Bn 19 .neq t18 (kI 0)]
abbrev C11_7 := Ro [Mv 20 t8,As 4 kP,As 5 t20]
abbrev C11_8 := Sq [4,5] C11_7 .ret
abbrev C11_9 := Cd t19 C11_8 .skip
abbrev C11_10 := Sq [1,6,7,8,10,19] C11_6 C11_9
abbrev C11_11 := Ro [Mv 21 t7,Mv 22 t6,Ca 23 34 [t21,t22]]
abbrev C11_12 := Ro [Mv 24 t7,As 4 t24,As 5 (kI 0)]
abbrev C11_13 := Sq [4,5] C11_12 .ret
abbrev C11_14 := Cd t23 C11_13 .skip
abbrev C11_15 := Sq [1,7,10,23] C11_11 C11_14
abbrev C11_16 := Ro [Mv 25 t7,As 6 t25]
abbrev C11_17 := Sq [1,7,10] C11_15 C11_16
abbrev C11_18 := Sq [1,6,7,10] C11_10 C11_17
abbrev C11_19 := Sq [1,6,7,8,10] C11_5 C11_18
abbrev C11_20 := Bk 1 C11_19
abbrev C11_21 := Ro [Bn 26 .add t10 (kI 1),Mv 10 t26]
abbrev C11_22 := Sq [1,6,10] C11_20 C11_21
abbrev C11_23 := Sq [1,6,10] C11_4 C11_22
abbrev C11_24 := Sq [1,6,10,11] C11_3 C11_23
abbrev C11_25 : ACode := .loop C11_24
abbrev C11_26 := Bk 0 C11_25
abbrev C11_27 := Sq [1,6,10] C11_2 C11_26
abbrev C11_28 := Ro [Mv 27 t6,As 4 t27,As 5 (kI 0)]
abbrev C11_29 := Sq [4,5] C11_28 .ret
abbrev C11_30 := Sq [6] C11_27 C11_29
abbrev C11_31 := Sq [1,6] C11_1 C11_30
abbrev C11_32 := Sq [0,1] C11_0 C11_31
abbrev C11 := C11_32
abbrev C11r : List RV := [.t 4,.t 5]
theorem C11ok : Okf Tryz.prog 11 Tryz.f11 C11 C11r := ⟨Tryz.func11, by kernel_rfl, by kernel_rfl, by kernel_rfl⟩

abbrev C12_0 := Ro [As 2 (kI 0)]
abbrev C12_1 := Ro [Mv 6 t0,Ca 7 30 [t6],Bn 8 .neq t7 (kI 0)]
abbrev C12_2 := Ro [As 2 (kI 0)]
abbrev C12_3 := Sq [2] C12_2 .ret
abbrev C12_4 := Cd t8 C12_3 .skip
abbrev C12_5 := Sq [0,8] C12_1 C12_4
abbrev C12_6 := Dr [Mv 9 t0,Nc 10 t9,Fa 11 1 t10,Ld 12 none t11,Ln 13 t12,Mv 14 t0,Nc 15 t14,Fa 16 2 t15,Ld 17 none t16,Ln 18 t17,Bn 19 .add t13 t18,As 3 t19] [[],[0],[1],[2],[3],[],[5],[6],[7],[8],[4,9],[10,0,1,2,3,4,5,6,7,8,9,10]] [(0,[]),(1,[]),(2,[]),(3,[]),(4,[]),(5,[]),(6,[]),(7,[]),(8,[]),(9,[]),(10,[]),(11,[])]
abbrev C12_7 := Ro [Mv 20 t0,Nc 21 t20,Fa 22 2 t21,Ld 23 none t22,Ln 24 t23,Mv 25 (kI 0)]
abbrev C12_8 := Ro [Bn 26 .lss t25 t24]
abbrev C12_9 := Cd t26 .skip (.exit 0)
abbrev C12_10 := Ro [Ix 27 5 t23 t25,Ld 28 (some 5) t27,Al 5 [zi,z4,zi,zi,.nils],Sxn 5 t5 t28]
abbrev C12_11 := Ro [Mv 29 t3,Fa 30 4 t5,Ld 31 none t30,Ln 32 t31,Bn 33 .add t29 t32,As 3 t33]
abbrev C12_12 : ACode := .fz 5 C12_11
abbrev C12_13 := Sq [3,5,23,24,25] C12_10 C12_12
abbrev C12_14 := Bk 1 C12_13
abbrev C12_15 := Ro [Bn 34 .add t25 (kI 1),Mv 25 t34]
abbrev C12_16 := Sq [3,23,24,25] C12_14 C12_15
abbrev C12_17 := Sq [3,23,24,25] C12_9 C12_16
abbrev C12_18 := Sq [3,23,24,25,26] C12_8 C12_17
abbrev C12_19 : ACode := .loop C12_18
abbrev C12_20 := Bk 0 C12_19
abbrev C12_21 := Sq [3,23,24,25] C12_7 C12_20
abbrev C12_22 := Ro [Mv 35 t3,As 2 t35]
abbrev C12_23 := Sq [2] C12_22 .ret
abbrev C12_24 := Sq [3] C12_21 C12_23
abbrev C12_25 := Sq [0,3] C12_6 C12_24
abbrev C12_26 := Sq [0] C12_5 C12_25
abbrev C12_27 := Sq [0] C12_0 C12_26
abbrev C12 := C12_27
abbrev C12r : List RV := [.t 2]
theorem C12ok : Okf Tryz.prog 12 Tryz.f12 C12 C12r := ⟨Tryz.func12, by kernel_rfl, by kernel_rfl, by kernel_rfl⟩

abbrev C13_0 := Ro [Br 1 t0,As 2 (kI 0)]
abbrev C13_1 := Ro [Fa 6 0 t1,Ld 7 none t6,Ln 8 t7,Bn 9 .gtr t8 (kI 32),Mv 10 t9,Faf 11 10 1 t1,Ldf 12 10 none t11,Lnf 13 10 t12,Bnf 14 10 .gtr t13 (kI 512),Pk 15 t10 kT t14,Mv 16 t15,Faf 17 16 2 t1,Ldf 18 16 none t17,Lnf 19 16 t18,Bnf 20 16 .gtr t19 (kI 128),Pk 21 t16 kT t20]
abbrev C13_2 := Ro [As 2 (kI 3)]
abbrev C13_3 := Sq [2] C13_2 .ret
abbrev C13_4 := Cd t21 C13_3 .skip
abbrev C13_5 := Sq [1,21] C13_1 C13_4
abbrev C13_6 := Ro [As 3 (kI 0)]
abbrev C13_7 := Ro [Mv 22 t3,Fa 23 1 t1,Ld 24 none t23,Ln 25 t24,Bn 26 .lss t22 t25]
abbrev C13_8 := Cd t26 .skip (.exit 0)
abbrev C13_9 := Sq [1,3,26] C13_7 C13_8
abbrev C13_10 := Ro [Ld 29 (some 4) t1,Mv 30 t3,Ca 31 35 [t29,t30],Un 32 .not t31]
abbrev C13_11 := Ro [As 2 (kI 1)]
abbrev C13_12 := Sq [2] C13_11 .ret
abbrev C13_13 := Cd t32 C13_12 .skip
abbrev C13_14 := Sq [1,3,32] C13_10 C13_13
abbrev C13_15 := Bk 1 C13_14
abbrev C13_16 := Ro [Mv 27 t3,Bn 28 .add t27 (kI 1),As 3 t28]
abbrev C13_17 := Sq [1,3] C13_15 C13_16
abbrev C13_18 := Sq [1,3] C13_9 C13_17
abbrev C13_19 : ACode := .loop C13_18
abbrev C13_20 := Bk 0 C13_19
abbrev C13_21 := Sq [1,3] C13_6 C13_20
abbrev C13_22 := Ro [As 4 (kI 0)]
abbrev C13_23 := Ro [Mv 33 t4,Fa 34 2 t1,Ld 35 none t34,Ln 36 t35,Bn 37 .lss t33 t36]
abbrev C13_24 := Cd t37 .skip (.exit 2)
abbrev C13_25 := Sq [1,4,37] C13_23 C13_24
abbrev C13_26 := Ro [Ld 40 (some 4) t1,Mv 41 t4,Ca 42 36 [t40,t41],Un 43 .not t42]
abbrev C13_27 := Ro [As 2 (kI 1)]
abbrev C13_28 := Sq [2] C13_27 .ret
abbrev C13_29 := Cd t43 C13_28 .skip
abbrev C13_30 := Sq [1,4,43] C13_26 C13_29
abbrev C13_31 := Bk 3 C13_30
abbrev C13_32 := Ro [Mv 38 t4,Bn 39 .add t38 (kI 1),As 4 t39]
abbrev C13_33 := Sq [1,4] C13_31 C13_32
abbrev C13_34 := Sq [1,4] C13_25 C13_33
abbrev C13_35 : ACode := .loop C13_34
abbrev C13_36 := Bk 2 C13_35
abbrev C13_37 := Sq [1,4] C13_22 C13_36
abbrev C13_38 := Ro [As 5 (kI 0)]
abbrev C13_39 := Ro [Mv 44 t5,Fa 45 0 t1,Ld 46 none t45,Ln 47 t46,Bn 48 .lss t44 t47]
abbrev C13_40 := Cd t48 .skip (.exit 4)
abbrev C13_41 := Sq [1,5,48] C13_39 C13_40
abbrev C13_42 := Ro [Fa 51 0 t1,Ld 52 none t51,Mv 53 t5,Ix 54 1 t52 t53,Ld 55 none t54,Bn 56 .rem t55 (kU 4),Bn 57 .neq t56 (kU 0)]
abbrev C13_43 := Ro [As 2 (kI 1)]
abbrev C13_44 := Sq [2] C13_43 .ret
abbrev C13_45 := Cd t57 C13_44 .skip
abbrev C13_46 := Sq [1,5,57] C13_42 C13_45
abbrev C13_47 := Bk 5 C13_46
abbrev C13_48 := Ro [Mv 49 t5,Bn 50 .add t49 (kI 1),As 5 t50]
abbrev C13_49 := Sq [1,5] C13_47 C13_48
abbrev C13_50 := Sq [1,5] C13_41 C13_49
abbrev C13_51 : ACode := .loop C13_50
abbrev C13_52 := Bk 4 C13_51
abbrev C13_53 := Sq [1,5] C13_38 C13_52
abbrev C13_54 := Ro [Fa 58 0 t1,Ld 59 none t58,Ln 60 t59,Bn 61 .eql t60 (kI 0),Mv 62 t61,Ldf 63 62 (some 4) t1,Faf 64 62 3 t1,Ldf 65 62 none t64,Faf 66 62 1 t1,Ldf 67 62 none t66,Lnf 68 62 t67,Caf 69 62 37 [t63,t65,t68],Unf 70 62 .not t69,Pk 71 t62 kT t70]
abbrev C13_55 := Ro [As 2 (kI 1)]
abbrev C13_56 := Sq [2] C13_55 .ret
abbrev C13_57 := Cd t71 C13_56 .skip
abbrev C13_58 := Sq [71] C13_54 C13_57
abbrev C13_59 := Ro [As 2 (kI 0)]
abbrev C13_60 := Sq [2] C13_59 .ret
abbrev C13_61 := Sq [] C13_58 C13_60
abbrev C13_62 := Sq [1] C13_53 C13_61
abbrev C13_63 := Sq [1] C13_37 C13_62
abbrev C13_64 := Sq [1] C13_21 C13_63
abbrev C13_65 := Sq [1] C13_5 C13_64
abbrev C13_66 := Sq [1] C13_0 C13_65
abbrev C13 := C13_66
abbrev C13r : List RV := [.t 2]
theorem C13ok : Okf Tryz.prog 13 Tryz.f13 C13 C13r := ⟨Tryz.func13, by kernel_rfl, by kernel_rfl, by kernel_rfl⟩

abbrev C14_0 := Ro [Br 1 t0,As 2 (kI 0)]
abbrev C14_1 := Ro [Fa 5 1 t1,Ld 6 none t5,Ln 7 t6,As 3 t7]
abbrev C14_2 := Ro [As 4 (kI 0)]
abbrev C14_3 := Ro [Mv 8 t4,Fa 9 2 t1,Ld 10 none t9,Ln 11 t10,Bn 12 .lss t8 t11]
abbrev C14_4 := Cd t12 .skip (.exit 0)
abbrev C14_5 := Sq [1,3,4,12] C14_3 C14_4
abbrev C14_6 := Ro [Mv 15 t3,Bn 16 .add t15 (kI 1),Fa 17 2 t1,Ld 18 none t17,Mv 19 t4,Ix 20 5 t18 t19,Fa 21 4 t20,Ld 22 none t21,Ln 23 t22,Bn 24 .add t16 t23,As 3 t24]
abbrev C14_7 := Bk 1 C14_6
abbrev C14_8 := Ro [Mv 13 t4,Bn 14 .add t13 (kI 1),As 4 t14]
abbrev C14_9 := Sq [1,3,4] C14_7 C14_8
abbrev C14_10 := Sq [1,3,4] C14_5 C14_9
abbrev C14_11 : ACode := .loop C14_10
abbrev C14_12 := Bk 0 C14_11
abbrev C14_13 := Sq [1,3,4] C14_2 C14_12
abbrev C14_14 := Ro [Mv 25 t3,As 2 t25]
abbrev C14_15 := Sq [2] C14_14 .ret
abbrev C14_16 := Sq [3] C14_13 C14_15
abbrev C14_17 := Sq [1,3] C14_1 C14_16
abbrev C14_18 := Sq [1] C14_0 C14_17
abbrev C14 := C14_18
abbrev C14r : List RV := [.t 2]
theorem C14ok : Okf Tryz.prog 14 Tryz.f14 C14 C14r := ⟨Tryz.func14, by kernel_rfl, by kernel_rfl, by kernel_rfl⟩

abbrev C16_0 := Ro [Al 2 [.nils,.nils,.nils,zi]]
abbrev C16_1 := Ro [Mv 9 t0,Ep 10 false t9 kP]
abbrev C16_2 := Ro [⟨(some 11),none,.r (.bld [.nils,.nils,.nils,zi] [])⟩,Sxn 4 t2 t11]
abbrev C16_3 := Sq [2] C16_2 .ret
abbrev C16_4 := Cd t10 C16_3 .skip
abbrev C16_5 := Sq [0,2,10] C16_1 C16_4
abbrev C16_6 := Dr [Mv 12 t0,Nc 13 t12,Fa 14 0 t13,Ld 15 none t14,Mv 16 t0,Nc 17 t16,Fa 18 3 t17,Ld 19 none t18,⟨(some 20),none,.r (.bld [.nils,.nils,.nils,zi] [(0,1,t15),(3,1,t19)])⟩,Al 3 [.nils,.nils,.nils,zi],Sxn 4 t3 t20] [[],[0],[1],[2],[],[4],[5],[6],[3,7],[],[9,8,0,1,2,3,4,5,6,7,8,9]] [(0,[]),(1,[]),(2,[]),(3,[]),(4,[]),(5,[]),(6,[]),(7,[]),(8,[]),(9,[0,1,2,3,4,5,6,7,8]),(10,[])]
abbrev C16_7 := Ro [As 4 (kI 0)]
abbrev C16_8 := Ro [Mv 21 t4,Mv 22 t0,Nc 23 t22,Fa 24 1 t23,Ld 25 none t24,Ln 26 t25,Bn 27 .lss t21 t26]
abbrev C16_9 := Cd t27 .skip (.exit 0)
abbrev C16_10 := Sq [0,2,3,4,27] C16_8 C16_9
abbrev C16_11 := Dr [Fa 30 1 t3,Ld 31 none t30,Mv 32 t0,Nc 33 t32,Fa 34 1 t33,Ld 35 none t34,Mv 36 t4,Ix 37 6 t35 t36,Ld 38 (some 6) t37,⟨(some 39),none,.e (.bsr 1 [zi,zi,zi,z4,zi,zi] [(0,6,t38)])⟩,Ap 40 6 48 t31 t39,Fa 41 1 t3,Sxn 1 t41 t40] [[],[0],[],[2],[3],[4],[],[5,6],[7],[8],[1,9],[0,1,2,3,4,5,6,7,8,9,10],[11,10,10,0,1,2,3,4,5,6,7,8,9,10]] [(0,[]),(1,[]),(2,[]),(3,[]),(4,[]),(5,[]),(6,[]),(7,[]),(8,[]),(9,[0,1]),(10,[]),(11,[]),(12,[])]
abbrev C16_12 := Bk 1 C16_11
abbrev C16_13 := Ro [Mv 28 t4,Bn 29 .add t28 (kI 1),As 4 t29]
abbrev C16_14 := Sq [0,2,3,4] C16_12 C16_13
abbrev C16_15 := Sq [0,2,3,4] C16_10 C16_14
abbrev C16_16 : ACode := .loop C16_15
abbrev C16_17 := Bk 0 C16_16
abbrev C16_18 := Sq [0,2,3,4] C16_7 C16_17
abbrev C16_19 := Ro [As 5 (kI 0)]
abbrev C16_20 := Ro [Mv 42 t5,Mv 43 t0,Nc 44 t43,Fa 45 2 t44,Ld 46 none t45,Ln 47 t46,Bn 48 .lss t42 t47]
abbrev C16_21 := Cd t48 .skip (.exit 2)
abbrev C16_22 := Sq [0,2,3,5,48] C16_20 C16_21
abbrev C16_23 := Ro [Mv 51 t0,Nc 52 t51,Fa 53 2 t52,Ld 54 none t53,Mv 55 t5,Ix 56 5 t54 t55,Ld 57 (some 5) t56,Al 6 [zi,z4,zi,zi,.nils],Sxn 5 t6 t57]
abbrev C16_24 := Ro [Fa 58 0 t6,Ld 59 none t58,Fa 60 1 t6,Ld 61 none t60,Fa 62 2 t6,Ld 63 none t62,Fa 64 3 t6,Ld 65 none t64,⟨(some 66),none,.r (.bld [zi,z4,zi,zi,.nils] [(0,1,t59),(1,1,t61),(2,1,t63),(3,1,t65)])⟩,Al 7 [zi,z4,zi,zi,.nils],Sxn 5 t7 t66]
abbrev C16_25 := Ro [As 8 (kI 0)]
abbrev C16_26 := Ro [Mv 67 t8,Fa 68 4 t6,Ld 69 none t68,Ln 70 t69,Bn 71 .lss t67 t70]
abbrev C16_27 := Cd t71 .skip (.exit 4)
abbrev C16_28 := Sq [0,2,3,5,6,7,8,71] C16_26 C16_27
abbrev C16_29 := Dr [Fa 74 4 t7,Ld 75 none t74,Fa 76 4 t6,Ld 77 none t76,Mv 78 t8,Ix 79 2 t77 t78,Ld 80 (some 2) t79,⟨(some 81),none,.e (.bsr 1 [.int .i64 0,.int .i64 0] [(0,2,t80)])⟩,Ap 82 2 16 t75 t81,Fa 83 4 t7,Sxn 1 t83 t82] [[],[0],[],[2],[],[3,4],[5],[6],[1,7],[0,1,2,3,4,5,6,7,8],[9,8,8,0,1,2,3,4,5,6,7,8]] [(0,[]),(1,[]),(2,[]),(3,[]),(4,[]),(5,[]),(6,[]),(7,[0,1]),(8,[]),(9,[]),(10,[])]
abbrev C16_30 := Bk 5 C16_29
abbrev C16_31 := Ro [Mv 72 t8,Bn 73 .add t72 (kI 1),As 8 t73]
abbrev C16_32 := Sq [0,2,3,5,6,7,8] C16_30 C16_31
abbrev C16_33 := Sq [0,2,3,5,6,7,8] C16_28 C16_32
abbrev C16_34 : ACode := .loop C16_33
abbrev C16_35 := Bk 4 C16_34
abbrev C16_36 := Sq [0,2,3,5,6,7,8] C16_25 C16_35
abbrev C16_37 := Ro [Fa 84 2 t3,Ld 85 none t84,Ld 86 (some 5) t7,⟨(some 87),none,.e (.bsr 1 [zi,z4,zi,zi,.nils] [(0,5,t86)])⟩,Ap 88 5 56 t85 t87,Fa 89 2 t3,Sxn 1 t89 t88]
abbrev C16_38 : ACode := .wk 7 C16_37
abbrev C16_39 := Sq [0,2,3,5,7] C16_36 C16_38
abbrev C16_40 := Sq [0,2,3,5,6,7] C16_24 C16_39
abbrev C16_41 : ACode := .fz 6 C16_40
abbrev C16_42 := Sq [0,2,3,5,6] C16_23 C16_41
abbrev C16_43 := Bk 3 C16_42
abbrev C16_44 := Ro [Mv 49 t5,Bn 50 .add t49 (kI 1),As 5 t50]
abbrev C16_45 := Sq [0,2,3,5] C16_43 C16_44
abbrev C16_46 := Sq [0,2,3,5] C16_22 C16_45
abbrev C16_47 : ACode := .loop C16_46
abbrev C16_48 := Bk 2 C16_47
abbrev C16_49 := Sq [0,2,3,5] C16_19 C16_48
abbrev C16_50 := Ro [Ld 90 (some 4) t3,Sxn 4 t2 t90]
abbrev C16_51 := Sq [2] C16_50 .ret
abbrev C16_52 : ACode := .wk 3 C16_51
abbrev C16_53 := Sq [2,3] C16_49 C16_52
abbrev C16_54 : ACode := .wk 3 C16_53
abbrev C16_55 := Sq [0,2,3] C16_18 C16_54
abbrev C16_56 := Sq [0,2,3] C16_6 C16_55
abbrev C16_57 := Sq [0,2] C16_5 C16_56
abbrev C16_58 := Sq [0,2] C16_0 C16_57
abbrev C16 := C16_58
abbrev C16r : List RV := [.c 2 (some 4)]
theorem C16ok : Okf Tryz.prog 16 Tryz.f16 C16 C16r := ⟨Tryz.func16, by kernel_rfl, by kernel_rfl, by kernel_rfl⟩

abbrev C19_0 := Ro [As 2 kF]
abbrev C19_1 := Ro [Mv 3 t0,Bn 4 .geq t3 (kI 64),Mv 5 t4,Mvt 6 5 t0,Bnt 7 5 .leq t6 (kI 65536),Pk 8 t5 t7 kF,Mv 9 t8,Mvt 10 9 t0,Bnt 11 9 .rem t10 (kI 64),Bnt 12 9 .eql t11 (kI 0),Pk 13 t9 t12 kF,As 2 t13]
abbrev C19_2 := Sq [2] C19_1 .ret
abbrev C19_3 := Sq [0] C19_0 C19_2
abbrev C19 := C19_3
abbrev C19r : List RV := [.t 2]
theorem C19ok : Okf Tryz.prog 19 Tryz.f19 C19 C19r := ⟨Tryz.func19, by kernel_rfl, by kernel_rfl, by kernel_rfl⟩

abbrev C20_0 := Ro [Br 1 t0,Al 2 [.nils,.nils,.nils]]
abbrev C20_1 := Ro [Fa 5 32 t1,Ld 6 none t5,Ca 7 44 [t6],Al 3 [.nils,.nils,.nils],Sxn 3 t3 t7]
abbrev C20_2 := Ro [Fa 8 33 t1,Ld 9 none t8,Ln 10 t9,Bn 11 .gtr t10 (kI 0)]
abbrev C20_3 := Ro [Fa 12 0 t3,Ld 13 none t12,Fa 14 33 t1,Ld 15 none t14,Ca 16 45 [t13,(kU 2147483648),t15],Fa 17 0 t3,Sxn 1 t17 t16]
abbrev C20_4 := Cd t11 C20_3 .skip
abbrev C20_5 := Sq [1,2,3,11] C20_2 C20_4
abbrev C20_6 := Ro [As 4 (kI 0)]
abbrev C20_7 := Ro [Mv 18 t4,Bn 19 .lss t18 (kI 16),Mv 20 t19,Mvt 21 20 t4,Fat 22 20 1 t3,Ldt 23 20 none t22,Lnt 24 20 t23,Bnt 25 20 .lss t21 t24,Pk 26 t20 t25 kF]
abbrev C20_8 := Cd t26 .skip (.exit 0)
abbrev C20_9 := Sq [1,2,3,4,26] C20_7 C20_8
abbrev C20_10 := Ro [Fa 29 1 t3,Ld 30 none t29,Mv 31 t4,Fa 32 34 t1,Ld 33 none t32,Mv 34 t4,Cv 35 .u64 t34,Bn 36 .shr t33 t35,Bn 37 .and t36 (kW 1),Bn 38 .eql t37 (kW 1),Ix 39 1 t30 t31,Sxn 1 t39 t38]
abbrev C20_11 := Bk 1 C20_10
abbrev C20_12 := Ro [Mv 27 t4,Bn 28 .add t27 (kI 1),As 4 t28]
abbrev C20_13 := Sq [1,2,3,4] C20_11 C20_12
abbrev C20_14 := Sq [1,2,3,4] C20_9 C20_13
abbrev C20_15 : ACode := .loop C20_14
abbrev C20_16 := Bk 0 C20_15
abbrev C20_17 := Sq [1,2,3,4] C20_6 C20_16
abbrev C20_18 := Ro [Ld 40 (some 3) t3,Sxn 3 t2 t40]
abbrev C20_19 := Sq [2] C20_18 .ret
abbrev C20_20 := Sq [2,3] C20_17 C20_19
abbrev C20_21 := Sq [1,2,3] C20_5 C20_20
abbrev C20_22 := Sq [1,2,3] C20_1 C20_21
abbrev C20_23 := Sq [1,2] C20_0 C20_22
abbrev C20 := C20_23
abbrev C20r : List RV := [.c 2 (some 3)]
theorem C20ok : Okf Tryz.prog 20 Tryz.f20 C20 C20r := ⟨Tryz.func20, by kernel_rfl, by kernel_rfl, by kernel_rfl⟩

abbrev C21_0 := Ro [Br 2 t0,Br 3 t1,As 4 kF]
abbrev C21_1 := Ro [Fa 5 0 t2,Ld 6 (some 32) t5,Fa 7 0 t3,Ld 8 (some 32) t7,⟨(some 9),none,.r (.eqa false [.i,.i,.i,.i,.i,.i,.i,.i,.i,.i,.i,.i,.i,.i,.i,.i,.i,.i,.i,.i,.i,.i,.i,.i,.i,.i,.i,.i,.i,.i,.i,.i] t6 t8)⟩,Mv 10 t9,Fat 11 10 32 t2,Ldt 12 10 none t11,Fat 13 10 32 t3,Ldt 14 10 none t13,Bnt 15 10 .eql t12 t14,Pk 16 t10 t15 kF,Mv 17 t16,Fat 18 17 33 t2,Ldt 19 17 none t18,Fat 20 17 33 t3,Ldt 21 17 none t20,Bnt 22 17 .eql t19 t21,Pk 23 t17 t22 kF,Mv 24 t23,Fat 25 24 34 t2,Ldt 26 24 none t25,Fat 27 24 34 t3,Ldt 28 24 none t27,Bnt 29 24 .eql t26 t28,Pk 30 t24 t29 kF,Mv 31 t30,Fat 32 31 36 t2,Fat 33 31 0 t32,Ldt 34 31 none t33,Fat 35 31 36 t3,Fat 36 31 0 t35,Ldt 37 31 none t36,Cat 38 31 46 [t34,t37],Pk 39 t31 t38 kF,As 4 t39]
abbrev C21_2 := Sq [4] C21_1 .ret
abbrev C21_3 := Sq [2,3] C21_0 C21_2
abbrev C21 := C21_3
abbrev C21r : List RV := [.t 4]
theorem C21ok : Okf Tryz.prog 21 Tryz.f21 C21 C21r := ⟨Tryz.func21, by kernel_rfl, by kernel_rfl, by kernel_rfl⟩

abbrev C22_0 := Ro [Br 3 t0,Br 4 t1,⟨(some 5),none,.e (.box t2)⟩,Al 6 [z4,z4,z4,z4,z4,z4,z4,z4,z4,z4,z4,z4,z4,z4,z4,z4,z4,z4,z4,z4,z4,z4,z4,z4,z4,z4,z4,z4,z4,z4,z4,z4,z4,zi,zi,zi,.nils,.nils,.nils]]
abbrev C22_1 := Ro [⟨(some 16),none,.e (.bsl 0 [] [])⟩,As 7 t16]
abbrev C22_2 := Ro [As 8 (kI 0)]
abbrev C22_3 := Ro [Mv 17 t8,Fa 18 1 t3,Ld 19 none t18,Ln 20 t19,Bn 21 .lss t17 t20]
abbrev C22_4 := Cd t21 .skip (.exit 0)
abbrev C22_5 := Sq [3,4,5,6,7,8,21] C22_3 C22_4
abbrev C22_6 := Ro [Fa 24 1 t3,Ld 25 none t24,Mv 26 t8,Ix 27 6 t25 t26,Ld 28 (some 6) t27,Al 9 [zi,zi,zi,z4,zi,zi],Sxn 6 t9 t28]
abbrev C22_7 := Ro [As 10 (kU 0)]
abbrev C22_8 := Ro [Fa 29 3 t9,Ld 30 none t29,Cv 31 .i64 t30,As 11 t31]
abbrev C22_9 := Ro [Fa 32 0 t9,Ld 33 none t32]
abbrev C22_10 := Ro [Bn 35 .eql t33 (kI 1),As 34 t35]
abbrev C22_11 := Ro [Fa 36 3 t9,Ld 37 none t36,⟨(some 38),none,.r (.ixa 32 1 t4 t37)⟩,Ld 39 none t38,As 10 t39]
abbrev C22_12 := Ro [Bn 41 .eql t33 (kI 2),As 40 t41]
abbrev C22_13 := Ro [Fa 42 3 t9,Ld 43 none t42,As 10 t43]
abbrev C22_14 := Ro [Bn 45 .eql t33 (kI 3),As 44 t45]
abbrev C22_15 := Dr [Mv 46 t11,Mv 47 t7,Fa 48 1 t9,Ld 49 none t48,Ix 50 1 t47 t49,Ld 51 none t50,Mv 52 t7,Fa 53 2 t9,Ld 54 none t53,Ix 55 1 t52 t54,Ld 56 none t55,Ca 57 47 [t46,t51,t56],As 10 t57] [[],[],[],[2],[1,3],[4],[],[],[7],[6,8],[9],[0,5,10],[11,11,0,1,2,3,4,5,6,7,8,9,10,11]] [(0,[]),(1,[]),(2,[]),(3,[]),(4,[]),(5,[]),(6,[]),(7,[]),(8,[]),(9,[]),(10,[]),(11,[]),(12,[])]
abbrev C22_16 := Ro [Bn 59 .eql t33 (kI 4),As 58 t59]
abbrev C22_17 := Ro [Mv 60 t11,Ca 61 48 [t60],As 12 t61]
abbrev C22_18 := Dr [Fa 62 0 t5,Ld 63 none t62,Mv 64 t7,Fa 65 1 t9,Ld 66 none t65,Ix 67 1 t64 t66,Ld 68 none t67,Mv 69 t12,Ca 70 49 [t63,t68,t69],Bn 71 .neq t70 (kI 0)] [[],[0],[],[],[3],[2,4],[5],[],[1,6,7],[8]] [(0,[]),(1,[]),(2,[]),(3,[]),(4,[]),(5,[]),(6,[]),(7,[]),(8,[]),(9,[])]
abbrev C22_19 := Ro [Ld 72 (some 4) t3,Fa 73 4 t9,Ld 74 none t73,Ld 75 (some 32) t4,Mv 76 t7,Ld 77 (some 3) t5,Ca 78 50 [t72,t74,t75,t76,t77],Sxn 39 t6 t78]
abbrev C22_20 := Sq [6] C22_19 .ret
abbrev C22_21 := Cd t71 C22_20 .skip
abbrev C22_22 := Sq [3,4,5,6,7,8,9,11,12,71] C22_18 C22_21
abbrev C22_23 := Dr [Fa 79 0 t5,Ld 80 none t79,Mv 81 t7,Fa 82 1 t9,Ld 83 none t82,Ix 84 1 t81 t83,Ld 85 none t84,Mv 86 t12,Ca 87 51 [t80,t85,t86],As 10 t87] [[],[0],[],[],[3],[2,4],[5],[],[1,6,7],[8,8,0,1,2,3,4,5,6,7,8]] [(0,[]),(1,[]),(2,[]),(3,[]),(4,[]),(5,[]),(6,[]),(7,[]),(8,[]),(9,[])]
abbrev C22_24 := Ro [Mv 88 t11,Bn 89 .eql t88 (kI 11),Mv 90 t89,Mvf 91 90 t11,Bnf 92 90 .eql t91 (kI 12),Pk 93 t90 kT t92]
abbrev C22_25 := Ro [Mv 94 t10,Mv 95 t12,Bn 96 .mul (kI 8) t95,Ca 97 52 [t94,t96],As 10 t97]
abbrev C22_26 := Cd t93 C22_25 .skip
abbrev C22_27 := Sq [3,4,5,6,7,8,10,12,93] C22_24 C22_26
abbrev C22_28 := Sq [3,4,5,6,7,8,10,11,12] C22_23 C22_27
abbrev C22_29 := Sq [3,4,5,6,7,8,9,11,12] C22_22 C22_28
abbrev C22_30 := Sq [3,4,5,6,7,8,9,11,12] C22_17 C22_29
abbrev C22_31 := Ro [Bn 99 .eql t33 (kI 5),As 98 t99]
abbrev C22_32 := Ro [Mv 100 t11,Ca 101 53 [t100],As 13 t101]
abbrev C22_33 := Dr [Fa 102 0 t5,Ld 103 none t102,Mv 104 t7,Fa 105 1 t9,Ld 106 none t105,Ix 107 1 t104 t106,Ld 108 none t107,Mv 109 t13,Ca 110 49 [t103,t108,t109],Bn 111 .neq t110 (kI 0)] [[],[0],[],[],[3],[2,4],[5],[],[1,6,7],[8]] [(0,[]),(1,[]),(2,[]),(3,[]),(4,[]),(5,[]),(6,[]),(7,[]),(8,[]),(9,[])]
abbrev C22_34 := Ro [Ld 112 (some 4) t3,Fa 113 4 t9,Ld 114 none t113,Ld 115 (some 32) t4,Mv 116 t7,Ld 117 (some 3) t5,Ca 118 50 [t112,t114,t115,t116,t117],Sxn 39 t6 t118]
abbrev C22_35 := Sq [6] C22_34 .ret
abbrev C22_36 := Cd t111 C22_35 .skip
abbrev C22_37 := Sq [3,4,5,6,7,8,9,10,13,111] C22_33 C22_36
abbrev C22_38 : ACode := .dregt [Ld 120 (some 3) t5,Mv 121 t7,Fa 122 1 t9,Ld 123 none t122,Ix 124 1 t121 t123,Ld 125 none t124,Mv 126 t13,Mv 127 t7,Fa 128 2 t9,Ld 129 none t128,Ix 130 1 t127 t129,Ld 131 none t130,Ca 132 54 [t120,t125,t126,t131],Mv 119 t132,Ex 133 0 t119,Ex 134 1 t119,Al 14 [.nils,.nils,.nils],Sxn 3 t14 t133,As 15 t134] [[],[],[],[2],[1,3],[4],[],[],[],[8],[7,9],[10],[0,5,6,11],[12],[13],[13],[],[16,14,12,0,1,2,3,4,5,6,7,8,9,10,11,12,13,14,16],[15,17,0,1,2,3,4,5,6,7,8,9,10,11,12,13,14,15,16,17]] (.r 0 (.r 1 (.r 2 (.r 3 (.r 4 (.r 5 (.r 6 (.r 7 (.r 8 (.r 9 (.r 10 (.r 11 (.e 12 [] (.r 13 (.r 14 (.r 15 (.e 16 [0,1,2,3,4,5,6,7,8,9,10,11,13,14,15] (.e 17 [15] (.e 18 [] .nil .nil) .nil) .nil)))) (.e 16 [0,1,2,3,4,5,6,7,8,9,10,11] (.e 12 [] (.r 13 (.r 14 (.r 15 (.e 17 [15] (.e 18 [] .nil .nil) .nil)))) .nil) .nil))))))))))))))
abbrev C22_39 := Ro [Ld 135 (some 3) t14,Sxn 3 t5 t135]
abbrev C22_40 := Ro [Mv 136 t15]
abbrev C22_41 := Ro [Ld 137 (some 4) t3,Fa 138 5 t9,Ld 139 none t138,Ld 140 (some 32) t4,Mv 141 t7,Ld 142 (some 3) t5,Ca 143 50 [t137,t139,t140,t141,t142],Sxn 39 t6 t143]
abbrev C22_42 := Sq [6] C22_41 .ret
abbrev C22_43 := Cd t136 C22_42 .skip
abbrev C22_44 := Sq [3,4,5,6,7,8,9,10,136] C22_40 C22_43
abbrev C22_45 := Sq [3,4,5,6,7,8,9,10,15] C22_39 C22_44
abbrev C22_46 := Sq [3,4,5,6,7,8,9,10,14,15] C22_38 C22_45
abbrev C22_47 := Sq [3,4,5,6,7,8,9,10,13] C22_37 C22_46
abbrev C22_48 := Sq [3,4,5,6,7,8,9,10,13] C22_32 C22_47
abbrev C22_49 := Ro [Bn 145 .eql t33 (kI 6),As 144 t145]
abbrev C22_50 := Dr [Mv 146 t11,Mv 147 t7,Fa 148 1 t9,Ld 149 none t148,Ix 150 1 t147 t149,Ld 151 none t150,Mv 152 t7,Fa 153 2 t9,Ld 154 none t153,Ix 155 1 t152 t154,Ld 156 none t155,Ca 157 55 [t146,t151,t156],Un 158 .not t157] [[],[],[],[2],[1,3],[4],[],[],[7],[6,8],[9],[0,5,10],[11]] [(0,[]),(1,[]),(2,[]),(3,[]),(4,[]),(5,[]),(6,[]),(7,[]),(8,[]),(9,[]),(10,[]),(11,[]),(12,[])]
abbrev C22_51 := Ro [Ld 159 (some 4) t3,Fa 160 4 t9,Ld 161 none t160,Ld 162 (some 32) t4,Mv 163 t7,Ld 164 (some 3) t5,Ca 165 50 [t159,t161,t162,t163,t164],Sxn 39 t6 t165]
abbrev C22_52 := Sq [6] C22_51 .ret
abbrev C22_53 := Cd t158 C22_52 .skip
abbrev C22_54 := Sq [3,4,5,6,7,8,9,10,158] C22_50 C22_53
abbrev C22_55 := Cd t144 C22_54 .skip
abbrev C22_56 := Sq [3,4,5,6,7,8,9,10,11,144] C22_49 C22_55
abbrev C22_57 := Cd t98 C22_48 C22_56
abbrev C22_58 := Sq [3,4,5,6,7,8,9,10,11,33,98] C22_31 C22_57
abbrev C22_59 := Cd t58 C22_30 C22_58
abbrev C22_60 := Sq [3,4,5,6,7,8,9,10,11,33,58] C22_16 C22_59
abbrev C22_61 := Cd t44 C22_15 C22_60
abbrev C22_62 := Sq [3,4,5,6,7,8,9,10,11,33,44] C22_14 C22_61
abbrev C22_63 := Cd t40 C22_13 C22_62
abbrev C22_64 := Sq [3,4,5,6,7,8,9,10,11,33,40] C22_12 C22_63
abbrev C22_65 := Cd t34 C22_11 C22_64
abbrev C22_66 := Sq [3,4,5,6,7,8,9,10,11,33,34] C22_10 C22_65
abbrev C22_67 := Bk 2 C22_66
abbrev C22_68 := Sq [3,4,5,6,7,8,9,10,11,33] C22_9 C22_67
abbrev C22_69 := Ro [Mv 166 t7,Mv 167 t10,⟨(some 168),none,.e (.bsr 1 [.int .u32 0] [(0,1,t167)])⟩,Ap 169 1 4 t166 t168,As 7 t169]
abbrev C22_70 := Sq [3,4,5,6,7,8,10] C22_68 C22_69
abbrev C22_71 := Sq [3,4,5,6,7,8,9,10,11] C22_8 C22_70
abbrev C22_72 := Sq [3,4,5,6,7,8,9,10] C22_7 C22_71
abbrev C22_73 : ACode := .fz 9 C22_72
abbrev C22_74 := Sq [3,4,5,6,7,8,9] C22_6 C22_73
abbrev C22_75 := Bk 1 C22_74
abbrev C22_76 := Ro [Mv 22 t8,Bn 23 .add t22 (kI 1),As 8 t23]
abbrev C22_77 := Sq [3,4,5,6,7,8] C22_75 C22_76
abbrev C22_78 := Sq [3,4,5,6,7,8] C22_5 C22_77
abbrev C22_79 : ACode := .loop C22_78
abbrev C22_80 := Bk 0 C22_79
abbrev C22_81 := Sq [3,4,5,6,7,8] C22_2 C22_80
abbrev C22_82 := Ro [Ld 170 (some 4) t3,Fa 171 3 t3,Ld 172 none t171,Ld 173 (some 32) t4,Mv 174 t7,Ld 175 (some 3) t5,Ca 176 50 [t170,t172,t173,t174,t175],Sxn 39 t6 t176]
abbrev C22_83 := Sq [6] C22_82 .ret
abbrev C22_84 := Sq [3,4,5,6,7] C22_81 C22_83
abbrev C22_85 := Sq [3,4,5,6,7] C22_1 C22_84
abbrev C22_86 := Sq [3,4,5,6] C22_0 C22_85
abbrev C22 := C22_86
abbrev C22r : List RV := [.c 6 (some 39)]
theorem C22ok : Okf Tryz.prog 22 Tryz.f22 C22 C22r := ⟨Tryz.func22, by kernel_rfl, by kernel_rfl, by kernel_rfl⟩

abbrev C30_0 := Ro [As 2 (kI 0)]
abbrev C30_1 := Ro [Mv 4 t0,Ep 5 false t4 kP,As 3 t5]
abbrev C30_2 := Ro [As 2 (kI 1)]
abbrev C30_3 := Sq [2] C30_2 .ret
abbrev C30_4 := Ro [Mv 7 t0,Nc 8 t7,Fa 9 0 t8,Ld 10 none t9,Ln 11 t10,Bn 12 .gtr t11 (kI 32),As 6 t12]
abbrev C30_5 := Ro [Mv 13 t0,Nc 14 t13,Fa 15 1 t14,Ld 16 none t15,Ln 17 t16,Bn 18 .gtr t17 (kI 512),As 6 t18]
abbrev C30_6 := Ro [Mv 19 t0,Nc 20 t19,Fa 21 2 t20,Ld 22 none t21,Ln 23 t22,Bn 24 .gtr t23 (kI 128),As 6 t24]
abbrev C30_7 := Cd t6 .skip C30_6
abbrev C30_8 := Sq [0,6] C30_5 C30_7
abbrev C30_9 := Cd t6 .skip C30_8
abbrev C30_10 := Sq [0,6] C30_4 C30_9
abbrev C30_11 := Ro [As 2 (kI 3)]
abbrev C30_12 := Sq [2] C30_11 .ret
abbrev C30_13 := Ro [Mv 26 t0,⟨(some 27),none,.r (.bld [.nilp] [(0,1,t26)])⟩,Ca 28 60 [t27],Un 29 .not t28,As 25 t29]
abbrev C30_14 := Ro [As 2 (kI 1)]
abbrev C30_15 := Sq [2] C30_14 .ret
abbrev C30_16 := Cd t25 C30_15 .skip
abbrev C30_17 := Sq [25] C30_13 C30_16
abbrev C30_18 := Cd t6 C30_12 C30_17
abbrev C30_19 := Sq [0,6] C30_10 C30_18
abbrev C30_20 := Cd t3 C30_3 C30_19
abbrev C30_21 := Sq [0,3] C30_1 C30_20
abbrev C30_22 := Bk 0 C30_21
abbrev C30_23 := Ro [As 2 (kI 0)]
abbrev C30_24 := Sq [2] C30_23 .ret
abbrev C30_25 := Sq [] C30_22 C30_24
abbrev C30_26 := Sq [0] C30_0 C30_25
abbrev C30 := C30_26
abbrev C30r : List RV := [.t 2]
theorem C30ok : Okf Tryz.prog 30 Tryz.f30 C30 C30r := ⟨Tryz.func30, by kernel_rfl, by kernel_rfl, by kernel_rfl⟩

abbrev C31_0 := Ro [As 2 kP]
abbrev C31_1 := Ro [Mv 5 t0,Ep 6 false t5 kP]
abbrev C31_2 := Ro [As 2 kP]
abbrev C31_3 := Sq [2] C31_2 .ret
abbrev C31_4 := Cd t6 C31_3 .skip
abbrev C31_5 := Sq [0,6] C31_1 C31_4
abbrev C31_6 := Dr [Mv 7 t0,Nc 8 t7,Fa 9 0 t8,Ld 10 none t9,Ca 11 61 [t10],Mv 12 t0,Nc 13 t12,Fa 14 1 t13,Ld 15 none t14,Ca 16 62 [t15],Mv 17 t0,Nc 18 t17,Fa 19 2 t18,Ld 20 none t19,Ca 21 63 [t20],Mv 22 t0,Nc 23 t22,Fa 24 3 t23,Ld 25 none t24,⟨(some 26),none,.r (.bld [.nils,.nils,.nils,zi] [(0,1,t11),(1,1,t16),(2,1,t21),(3,1,t25)])⟩,⟨(some 27),none,.e (.box t26)⟩,As 3 t27] [[],[0],[1],[2],[3],[],[5],[6],[7],[8,4],[],[10],[11],[12],[13,9],[],[15],[16],[17],[4,9,14,18],[19],[20,14,0,1,2,3,4,5,6,7,8,9,10,11,12,13,14,15,16,17,18,19,20]] [(0,[]),(1,[]),(2,[]),(3,[]),(5,[]),(6,[]),(7,[]),(8,[]),(10,[]),(11,[]),(12,[]),(13,[]),(15,[]),(16,[]),(17,[]),(18,[]),(4,[5,6,7,8,10,11,12,13,15,16,17,18]),(9,[10,11,12,13,15,16,17,18]),(14,[15,16,17,18]),(19,[]),(20,[]),(21,[])]
abbrev C31_7 := Ro [Mv 28 t3,Nc 29 t28,Fa 30 2 t29,Ld 31 none t30,Ln 32 t31,Mv 33 (kI 0)]
abbrev C31_8 := Ro [Bn 34 .lss t33 t32]
abbrev C31_9 := Cd t34 .skip (.exit 0)
abbrev C31_10 := Ro [Mv 35 t33,As 4 t35]
abbrev C31_11 := Dr [Mv 36 t3,Nc 37 t36,Fa 38 2 t37,Ld 39 none t38,Mv 40 t4,Mv 41 t3,Nc 42 t41,Fa 43 2 t42,Ld 44 none t43,Mv 45 t4,Ix 46 5 t44 t45,Fa 47 4 t46,Ld 48 none t47,Ca 49 64 [t48],Ix 50 5 t39 t40,Fa 51 4 t50,Sxn 1 t51 t49] [[],[0],[1],[2],[],[],[5],[6],[7],[],[8,9],[10],[11],[12],[3,4,0,1,2,3,4,5,6,7,8,9,10,11,12,13],[14,0,1,2,3,4,5,6,7,8,9,10,11,12,13],[15,13,13,0,1,2,3,4,5,6,7,8,9,10,11,12,13]] [(0,[]),(1,[]),(2,[]),(3,[]),(4,[]),(5,[]),(6,[]),(7,[]),(8,[]),(9,[]),(10,[]),(11,[]),(12,[]),(13,[0,1,2,3,4]),(14,[]),(15,[]),(16,[])]
abbrev C31_12 := Sq [3,4,32,33] C31_10 C31_11
abbrev C31_13 := Bk 1 C31_12
abbrev C31_14 := Ro [Bn 52 .add t33 (kI 1),Mv 33 t52]
abbrev C31_15 := Sq [3,32,33] C31_13 C31_14
abbrev C31_16 := Sq [3,32,33] C31_9 C31_15
abbrev C31_17 := Sq [3,32,33,34] C31_8 C31_16
abbrev C31_18 : ACode := .loop C31_17
abbrev C31_19 := Bk 0 C31_18
abbrev C31_20 := Sq [3,32,33] C31_7 C31_19
abbrev C31_21 := Ro [Mv 53 t3,As 2 t53]
abbrev C31_22 := Sq [2] C31_21 .ret
abbrev C31_23 := Sq [3] C31_20 C31_22
abbrev C31_24 := Sq [3] C31_6 C31_23
abbrev C31_25 := Sq [0] C31_5 C31_24
abbrev C31_26 := Sq [0] C31_0 C31_25
abbrev C31 := C31_26
abbrev C31r : List RV := [.t 2]
theorem C31ok : Okf Tryz.prog 31 Tryz.f31 C31 C31r := ⟨Tryz.func31, by kernel_rfl, by kernel_rfl, by kernel_rfl⟩

abbrev C32_0 := Ro [Br 1 t0,As 2 (.const .nilFunc)]
abbrev C32_1 := Ro [⟨(some 3),none,.r (.mkf 65 [] [t1])⟩,As 2 t3]
abbrev C32_2 := Sq [2] C32_1 .ret
abbrev C32_3 := Sq [1] C32_0 C32_2
abbrev C32 := C32_3
abbrev C32r : List RV := [.t 2]
theorem C32ok : Okf Tryz.prog 32 Tryz.f32 C32 C32r := ⟨Tryz.func32, by kernel_rfl, by kernel_rfl, by kernel_rfl⟩

abbrev C33_0 := Ro [As 4 kP,As 5 (kI 0)]
abbrev C33_1 := Ro [Mv 6 t0]
abbrev C33_2 := Ro [Bn 8 .eql t6 (kI 1),As 7 t8]
abbrev C33_3 := Ro [Mv 9 t1,Ca 10 66 [t9],Ex 11 0 t10,Ex 12 1 t10,As 4 t11,As 5 t12]
abbrev C33_4 := Sq [4,5] C33_3 .ret
abbrev C33_5 := Ro [Bn 14 .eql t6 (kI 2),As 13 t14]
abbrev C33_6 := Ro [Mv 15 t1,Ca 16 67 [t15],Ex 17 0 t16,Ex 18 1 t16,As 4 t17,As 5 t18]
abbrev C33_7 := Sq [4,5] C33_6 .ret
abbrev C33_8 := Ro [Bn 20 .eql t6 (kI 4),As 19 t20]
abbrev C33_9 := Ro [Mv 21 t1,Ca 22 68 [t21],Ex 23 0 t22,Ex 24 1 t22,As 4 t23,As 5 t24]
abbrev C33_10 := Sq [4,5] C33_9 .ret
abbrev C33_11 := Cd t19 C33_10 .skip
abbrev C33_12 := Sq [1,19] C33_8 C33_11
abbrev C33_13 := Cd t13 C33_7 C33_12
abbrev C33_14 := Sq [1,6,13] C33_5 C33_13
abbrev C33_15 := Cd t7 C33_4 C33_14
abbrev C33_16 := Sq [1,6,7] C33_2 C33_15
abbrev C33_17 := Bk 0 C33_16
abbrev C33_18 := Sq [1,6] C33_1 C33_17
abbrev C33_19 := Ro [Mv 25 t1,Ca 26 69 [t25],Ex 27 0 t26,Ex 28 1 t26,As 4 t27,As 5 t28]
abbrev C33_20 := Sq [4,5] C33_19 .ret
abbrev C33_21 := Sq [1] C33_18 C33_20
abbrev C33_22 := Sq [0,1] C33_0 C33_21
abbrev C33 := C33_22
abbrev C33r : List RV := [.t 4,.t 5]
theorem C33ok : Okf Tryz.prog 33 Tryz.f33 C33 C33r := ⟨Tryz.func33, by kernel_rfl, by kernel_rfl, by kernel_rfl⟩

abbrev C34_0 := Ro [As 4 kF]
abbrev C34_1 := Ro [Mv 6 t0,Ep 7 false t6 kP,Mv 8 t7,Mvf 9 8 t1,Epf 10 8 false t9 kP,Pk 11 t8 kT t10]
abbrev C34_2 := Ro [Mv 12 t0,Ep 13 false t12 kP,Mv 14 t13,Mvt 15 14 t1,Ept 16 14 false t15 kP,Pk 17 t14 t16 kF,As 4 t17]
abbrev C34_3 := Sq [4] C34_2 .ret
abbrev C34_4 := Cd t11 C34_3 .skip
abbrev C34_5 := Sq [0,1,11] C34_1 C34_4
abbrev C34_6 := Ro [As 5 (.func 70)]
abbrev C34_7 := Dr [Mv 18 t0,Nc 19 t18,Fa 20 3 t19,Ld 21 none t20,Mv 22 t1,Nc 23 t22,Fa 24 3 t23,Ld 25 none t24,Bn 26 .eql t21 t25,Mv 27 t26,Mvt 28 27 t0,Nct 29 27 t28,Fat 30 27 0 t29,Ldt 31 27 none t30,Mvt 32 27 t1,Nct 33 27 t32,Fat 34 27 0 t33,Ldt 35 27 none t34,Cat 36 27 72 [t31,t35],Pk 37 t27 t36 kF,Mv 38 t37,Mvt 39 38 t0,Nct 40 38 t39,Fat 41 38 1 t40,Ldt 42 38 none t41,Mvt 43 38 t1,Nct 44 38 t43,Fat 45 38 1 t44,Ldt 46 38 none t45,Cat 47 38 73 [t42,t46],Pk 48 t38 t47 kF,Mv 49 t48,Mvt 50 49 t0,Nct 51 49 t50,Fat 52 49 2 t51,Ldt 53 49 none t52,Mvt 54 49 t1,Nct 55 49 t54,Fat 56 49 2 t55,Ldt 57 49 none t56,Mvt 58 49 t5,Cat 59 49 74 [t53,t57,t58],Pk 60 t49 t59 kF,As 4 t60] [[],[0],[1],[2],[],[4],[5],[6],[3,7],[8],[9],[10,9],[11,9],[12,9],[9],[14,9],[15,9],[16,9],[13,17,9,9],[9,18],[19,18],[20],[21,20],[22,20],[23,20],[20],[25,20],[26,20],[27,20],[24,28,20,20],[20,29],[30,29],[31],[32,31],[33,31],[34,31],[31],[36,31],[37,31],[38,31],[31],[35,39,40,31,31],[31,41],[42,41,0,1,2,3,4,5,6,7,8,9,10,11,12,13,14,15,16,17,18,19,20,21,22,23,24,25,26,27,28,29,30,31,32,33,34,35,36,37,38,39,40,41,42]] [(0,[]),(1,[]),(2,[]),(3,[]),(4,[]),(5,[]),(6,[]),(7,[]),(8,[]),(9,[]),(10,[]),(11,[]),(12,[]),(13,[]),(14,[]),(15,[]),(16,[]),(17,[]),(18,[]),(19,[]),(20,[]),(21,[]),(22,[]),(23,[]),(24,[]),(25,[]),(26,[]),(27,[]),(28,[]),(29,[]),(30,[]),(31,[]),(32,[]),(33,[]),(34,[]),(35,[]),(36,[]),(37,[]),(38,[]),(39,[]),(40,[]),(41,[]),(42,[]),(43,[])]
abbrev C34_8 := Sq [4] C34_7 .ret
abbrev C34_9 := Sq [0,1,5] C34_6 C34_8
abbrev C34_10 := Sq [0,1] C34_5 C34_9
abbrev C34_11 := Sq [0,1] C34_0 C34_10
abbrev C34 := C34_11
abbrev C34r : List RV := [.t 4]
theorem C34ok : Okf Tryz.prog 34 Tryz.f34 C34 C34r := ⟨Tryz.func34, by kernel_rfl, by kernel_rfl, by kernel_rfl⟩

abbrev C35_0 := Ro [Br 2 t0,As 4 kF]
abbrev C35_1 := Ro [Fa 8 1 t2,Ld 9 none t8,Mv 10 t1,Ix 11 6 t9 t10,Ld 12 (some 6) t11,Al 5 [zi,zi,zi,z4,zi,zi],Sxn 6 t5 t12]
abbrev C35_2 := Ro [Fa 13 3 t5,Ld 14 none t13,Cv 15 .i64 t14,As 6 t15]
abbrev C35_3 := Ro [Fa 16 4 t5,Ld 17 none t16,Bn 18 .eql t17 (kI 0),Mv 19 t18,Fat 20 19 5 t5,Ldt 21 19 none t20,Bnt 22 19 .eql t21 (kI 0),Pk 23 t19 t22 kF,As 7 t23]
abbrev C35_4 := Ro [Fa 24 0 t5,Ld 25 none t24]
abbrev C35_5 := Ro [Bn 27 .eql t25 (kI 1),As 26 t27]
abbrev C35_6 := Ro [Mv 28 t6,Bn 29 .geq t28 (kI 1),Mv 30 t29,Mvt 31 30 t6,Bnt 32 30 .leq t31 (kI 31),Pk 33 t30 t32 kF,Mv 34 t33,Mvt 35 34 t7,Pk 36 t34 t35 kF,Mv 37 t36,Fat 38 37 1 t5,Ldt 39 37 none t38,Bnt 40 37 .eql t39 (kI 0),Pk 41 t37 t40 kF,Mv 42 t41,Fat 43 42 2 t5,Ldt 44 42 none t43,Bnt 45 42 .eql t44 (kI 0),Pk 46 t42 t45 kF,As 4 t46]
abbrev C35_7 := Sq [4] C35_6 .ret
abbrev C35_8 := Ro [Bn 48 .eql t25 (kI 2),As 47 t48]
abbrev C35_9 := Ro [Mv 49 t7,Mv 50 t49,Fat 51 50 1 t5,Ldt 52 50 none t51,Bnt 53 50 .eql t52 (kI 0),Pk 54 t50 t53 kF,Mv 55 t54,Fat 56 55 2 t5,Ldt 57 55 none t56,Bnt 58 55 .eql t57 (kI 0),Pk 59 t55 t58 kF,As 4 t59]
abbrev C35_10 := Sq [4] C35_9 .ret
abbrev C35_11 := Ro [Bn 61 .eql t25 (kI 3),As 60 t61]
abbrev C35_12 := Ro [Mv 62 t6,Ca 63 75 [t62],Mv 64 t63,Mvt 65 64 t7,Pk 66 t64 t65 kF,Mv 67 t66,Ldt 68 67 (some 4) t2,Fat 69 67 1 t5,Ldt 70 67 none t69,Mvt 71 67 t1,Cat 72 67 76 [t68,t70,t71],Pk 73 t67 t72 kF,Mv 74 t73,Ldt 75 74 (some 4) t2,Fat 76 74 2 t5,Ldt 77 74 none t76,Mvt 78 74 t1,Cat 79 74 76 [t75,t77,t78],Pk 80 t74 t79 kF,As 4 t80]
abbrev C35_13 := Sq [4] C35_12 .ret
abbrev C35_14 := Ro [Bn 82 .eql t25 (kI 4),As 81 t82]
abbrev C35_15 := Ro [Mv 83 t6,Ca 84 48 [t83],Bn 85 .gtr t84 (kI 0),Mv 86 t85,Fat 87 86 5 t5,Ldt 88 86 none t87,Bnt 89 86 .eql t88 (kI 0),Pk 90 t86 t89 kF,Mv 91 t90,Fat 92 91 2 t5,Ldt 93 91 none t92,Bnt 94 91 .eql t93 (kI 0),Pk 95 t91 t94 kF,Mv 96 t95,Ldt 97 96 (some 4) t2,Fat 98 96 1 t5,Ldt 99 96 none t98,Mvt 100 96 t1,Cat 101 96 76 [t97,t99,t100],Pk 102 t96 t101 kF,Mv 103 t102,Ldt 104 103 (some 4) t2,Fat 105 103 4 t5,Ldt 106 103 none t105,Mvt 107 103 t1,Cat 108 103 37 [t104,t106,t107],Pk 109 t103 t108 kF,As 4 t109]
abbrev C35_16 := Sq [4] C35_15 .ret
abbrev C35_17 := Ro [Bn 111 .eql t25 (kI 5),As 110 t111]
abbrev C35_18 := Ro [Mv 112 t6,Ca 113 53 [t112],Bn 114 .gtr t113 (kI 0),Mv 115 t114,Ldt 116 115 (some 4) t2,Fat 117 115 1 t5,Ldt 118 115 none t117,Mvt 119 115 t1,Cat 120 115 76 [t116,t118,t119],Pk 121 t115 t120 kF,Mv 122 t121,Ldt 123 122 (some 4) t2,Fat 124 122 2 t5,Ldt 125 122 none t124,Mvt 126 122 t1,Cat 127 122 76 [t123,t125,t126],Pk 128 t122 t127 kF,Mv 129 t128,Ldt 130 129 (some 4) t2,Fat 131 129 4 t5,Ldt 132 129 none t131,Mvt 133 129 t1,Cat 134 129 37 [t130,t132,t133],Pk 135 t129 t134 kF,Mv 136 t135,Ldt 137 136 (some 4) t2,Fat 138 136 5 t5,Ldt 139 136 none t138,Mvt 140 136 t1,Cat 141 136 37 [t137,t139,t140],Pk 142 t136 t141 kF,As 4 t142]
abbrev C35_19 := Sq [4] C35_18 .ret
abbrev C35_20 := Ro [Bn 144 .eql t25 (kI 6),As 143 t144]
abbrev C35_21 := Ro [Mv 145 t6,Bn 146 .geq t145 (kI 5),Mv 147 t146,Mvt 148 147 t6,Bnt 149 147 .leq t148 (kI 10),Pk 150 t147 t149 kF,Mv 151 t150,Fat 152 151 5 t5,Ldt 153 151 none t152,Bnt 154 151 .eql t153 (kI 0),Pk 155 t151 t154 kF,Mv 156 t155,Ldt 157 156 (some 4) t2,Fat 158 156 1 t5,Ldt 159 156 none t158,Mvt 160 156 t1,Cat 161 156 76 [t157,t159,t160],Pk 162 t156 t161 kF,Mv 163 t162,Ldt 164 163 (some 4) t2,Fat 165 163 2 t5,Ldt 166 163 none t165,Mvt 167 163 t1,Cat 168 163 76 [t164,t166,t167],Pk 169 t163 t168 kF,Mv 170 t169,Ldt 171 170 (some 4) t2,Fat 172 170 4 t5,Ldt 173 170 none t172,Mvt 174 170 t1,Cat 175 170 37 [t171,t173,t174],Pk 176 t170 t175 kF,As 4 t176]
abbrev C35_22 := Sq [4] C35_21 .ret
abbrev C35_23 := Cd t143 C35_22 .skip
abbrev C35_24 := Sq [1,2,5,6,143] C35_20 C35_23
abbrev C35_25 := Cd t110 C35_19 C35_24
abbrev C35_26 := Sq [1,2,5,6,25,110] C35_17 C35_25
abbrev C35_27 := Cd t81 C35_16 C35_26
abbrev C35_28 := Sq [1,2,5,6,25,81] C35_14 C35_27
abbrev C35_29 := Cd t60 C35_13 C35_28
abbrev C35_30 := Sq [1,2,5,6,7,25,60] C35_11 C35_29
abbrev C35_31 := Cd t47 C35_10 C35_30
abbrev C35_32 := Sq [1,2,5,6,7,25,47] C35_8 C35_31
abbrev C35_33 := Cd t26 C35_7 C35_32
abbrev C35_34 := Sq [1,2,5,6,7,25,26] C35_5 C35_33
abbrev C35_35 := Bk 0 C35_34
abbrev C35_36 := Sq [1,2,5,6,7,25] C35_4 C35_35
abbrev C35_37 := Ro [As 4 kF]
abbrev C35_38 := Sq [4] C35_37 .ret
abbrev C35_39 := Sq [] C35_36 C35_38
abbrev C35_40 := Sq [1,2,5,6,7] C35_3 C35_39
abbrev C35_41 := Sq [1,2,5,6] C35_2 C35_40
abbrev C35_42 : ACode := .fz 5 C35_41
abbrev C35_43 := Sq [1,2,5] C35_1 C35_42
abbrev C35_44 := Sq [1,2] C35_0 C35_43
abbrev C35 := C35_44
abbrev C35r : List RV := [.t 4]
theorem C35ok : Okf Tryz.prog 35 Tryz.f35 C35 C35r := ⟨Tryz.func35, by kernel_rfl, by kernel_rfl, by kernel_rfl⟩

abbrev C36_0 := Ro [Br 2 t0,As 4 kF]
abbrev C36_1 := Ro [Fa 7 2 t2,Ld 8 none t7,Mv 9 t1,Ix 10 5 t8 t9,Ld 11 (some 5) t10,Al 5 [zi,z4,zi,zi,.nils],Sxn 5 t5 t11]
abbrev C36_2 := Ro [Ld 12 (some 4) t2,Mv 13 t1,Fa 14 1 t2,Ld 15 none t14,Ln 16 t15,Ca 17 37 [t12,t13,t16],Un 18 .not t17,Mv 19 t18,Faf 20 19 0 t5,Ldf 21 19 none t20,Bnf 22 19 .lss t21 (kI 0),Pk 23 t19 kT t22,Mv 24 t23,Faf 25 24 0 t5,Ldf 26 24 none t25,Faf 27 24 0 t2,Ldf 28 24 none t27,Lnf 29 24 t28,Bnf 30 24 .gtr t26 t29,Pk 31 t24 kT t30,Mv 32 t31,Faf 33 32 1 t5,Ldf 34 32 none t33,Bnf 35 32 .rem t34 (kU 4),Bnf 36 32 .neq t35 (kU 0),Pk 37 t32 kT t36,Mv 38 t37,Faf 39 38 3 t5,Ldf 40 38 none t39,Bnf 41 38 .lss t40 (kI 1),Pk 42 t38 kT t41,Mv 43 t42,Faf 44 43 3 t5,Ldf 45 43 none t44,Bnf 46 43 .gtr t45 (kI 4),Pk 47 t43 kT t46]
abbrev C36_3 := Ro [As 4 kF]
abbrev C36_4 := Sq [4] C36_3 .ret
abbrev C36_5 := Cd t47 C36_4 .skip
abbrev C36_6 := Sq [5,47] C36_2 C36_5
abbrev C36_7 := Ro [As 6 (kI 0)]
abbrev C36_8 := Ro [Mv 48 t6,Fa 49 4 t5,Ld 50 none t49,Ln 51 t50,Bn 52 .lss t48 t51]
abbrev C36_9 := Cd t52 .skip (.exit 0)
abbrev C36_10 := Sq [5,6,52] C36_8 C36_9
abbrev C36_11 := Dr [Fa 55 4 t5,Ld 56 none t55,Mv 57 t6,Ix 58 2 t56 t57,Fa 59 0 t58,Ld 60 none t59,Bn 61 .lss t60 (kI 1),Mv 62 t61,Faf 63 62 4 t5,Ldf 64 62 none t63,Mvf 65 62 t6,Ixf 66 62 2 t64 t65,Faf 67 62 0 t66,Ldf 68 62 none t67,Bnf 69 62 .gtr t68 (kI 31),Pk 70 t62 kT t69,Mv 71 t70,Mvf 72 71 t6,Bnf 73 71 .gtr t72 (kI 0),Mvf 74 71 t73,Fat 75 74 4 t5,Ldt 76 74 none t75,Mvt 77 74 t6,Ixt 78 74 2 t76 t77,Fat 79 74 0 t78,Ldt 80 74 none t79,Fat 81 74 4 t5,Ldt 82 74 none t81,Mvt 83 74 t6,Bnt 84 74 .sub t83 (kI 1),Ixt 85 74 2 t82 t84,Fat 86 74 0 t85,Ldt 87 74 none t86,Bnt 88 74 .leq t80 t87,Pkf 89 71 t74 t88 kF,Pk 90 t71 kT t89] [[],[0],[],[1,2],[3],[4],[5],[6],[7],[8,7],[7],[9,10,7],[11,7],[12,7],[13,7],[7,14],[15,7],[16],[17,16],[18,16,16],[19],[20,19],[19],[21,22,19],[23,19],[24,19],[19],[26,19],[19],[28,19],[27,29,19],[30,19],[31,19],[25,32,19],[19,33,16],[16,34]] [(0,[]),(1,[]),(2,[]),(3,[]),(4,[]),(5,[]),(6,[]),(7,[]),(8,[]),(9,[]),(10,[]),(11,[]),(12,[]),(13,[]),(14,[]),(15,[]),(16,[]),(17,[]),(18,[]),(19,[]),(20,[]),(21,[]),(22,[]),(23,[]),(24,[]),(25,[]),(26,[]),(27,[]),(28,[]),(29,[]),(30,[]),(31,[]),(32,[]),(33,[]),(34,[]),(35,[])]
abbrev C36_12 := Ro [As 4 kF]
abbrev C36_13 := Sq [4] C36_12 .ret
abbrev C36_14 := Cd t90 C36_13 .skip
abbrev C36_15 := Sq [5,6,90] C36_11 C36_14
abbrev C36_16 := Bk 1 C36_15
abbrev C36_17 := Ro [Mv 53 t6,Bn 54 .add t53 (kI 1),As 6 t54]
abbrev C36_18 := Sq [5,6] C36_16 C36_17
abbrev C36_19 := Sq [5,6] C36_10 C36_18
abbrev C36_20 : ACode := .loop C36_19
abbrev C36_21 := Bk 0 C36_20
abbrev C36_22 := Sq [5,6] C36_7 C36_21
abbrev C36_23 := Ro [As 4 kT]
abbrev C36_24 := Sq [4] C36_23 .ret
abbrev C36_25 := Sq [] C36_22 C36_24
abbrev C36_26 := Sq [5] C36_6 C36_25
abbrev C36_27 : ACode := .fz 5 C36_26
abbrev C36_28 := Sq [1,2,5] C36_1 C36_27
abbrev C36_29 := Sq [1,2] C36_0 C36_28
abbrev C36 := C36_29
abbrev C36r : List RV := [.t 4]
theorem C36ok : Okf Tryz.prog 36 Tryz.f36 C36 C36r := ⟨Tryz.func36, by kernel_rfl, by kernel_rfl, by kernel_rfl⟩

abbrev C37_0 := Ro [Br 3 t0,As 6 kF]
abbrev C37_1 := Ro [Mv 9 t1,Bn 10 .lss t9 (kI 0),Mv 11 t10,Mvf 12 11 t1,Faf 13 11 2 t3,Ldf 14 11 none t13,Lnf 15 11 t14,Bnf 16 11 .geq t12 t15,Pk 17 t11 kT t16]
abbrev C37_2 := Ro [As 6 kF]
abbrev C37_3 := Sq [6] C37_2 .ret
abbrev C37_4 := Cd t17 C37_3 .skip
abbrev C37_5 := Sq [1,2,3,17] C37_1 C37_4
abbrev C37_6 := Ro [Fa 18 2 t3,Ld 19 none t18,Mv 20 t1,Ix 21 5 t19 t20,Ld 22 (some 5) t21,Al 7 [zi,z4,zi,zi,.nils],Sxn 5 t7 t22]
abbrev C37_7 := Ro [As 8 (kI 0)]
abbrev C37_8 := Ro [Mv 23 t8,Fa 24 4 t7,Ld 25 none t24,Ln 26 t25,Bn 27 .lss t23 t26]
abbrev C37_9 := Cd t27 .skip (.exit 0)
abbrev C37_10 := Sq [2,3,7,8,27] C37_8 C37_9
abbrev C37_11 := Dr [Ld 30 (some 4) t3,Fa 31 4 t7,Ld 32 none t31,Mv 33 t8,Ix 34 2 t32 t33,Fa 35 1 t34,Ld 36 none t35,Mv 37 t2,Ca 38 76 [t30,t36,t37],Un 39 .not t38] [[],[],[1],[],[2,3],[4],[5],[],[0,6,7],[8]] [(0,[]),(1,[]),(2,[]),(3,[]),(4,[]),(5,[]),(6,[]),(7,[]),(8,[]),(9,[])]
abbrev C37_12 := Ro [As 6 kF]
abbrev C37_13 := Sq [6] C37_12 .ret
abbrev C37_14 := Cd t39 C37_13 .skip
abbrev C37_15 := Sq [2,3,7,8,39] C37_11 C37_14
abbrev C37_16 := Bk 1 C37_15
abbrev C37_17 := Ro [Mv 28 t8,Bn 29 .add t28 (kI 1),As 8 t29]
abbrev C37_18 := Sq [2,3,7,8] C37_16 C37_17
abbrev C37_19 := Sq [2,3,7,8] C37_10 C37_18
abbrev C37_20 : ACode := .loop C37_19
abbrev C37_21 := Bk 0 C37_20
abbrev C37_22 := Sq [2,3,7,8] C37_7 C37_21
abbrev C37_23 := Ro [Fa 40 2 t7,Ld 41 none t40,Bn 42 .eql t41 (kI (-1)),Mv 43 t42,Ldf 44 43 (some 4) t3,Faf 45 43 2 t7,Ldf 46 43 none t45,Mvf 47 43 t2,Caf 48 43 76 [t44,t46,t47],Pk 49 t43 kT t48,As 6 t49]
abbrev C37_24 := Sq [6] C37_23 .ret
abbrev C37_25 := Sq [2,3,7] C37_22 C37_24
abbrev C37_26 : ACode := .fz 7 C37_25
abbrev C37_27 := Sq [2,3,7] C37_6 C37_26
abbrev C37_28 := Sq [1,2,3] C37_5 C37_27
abbrev C37_29 := Sq [1,2,3] C37_0 C37_28
abbrev C37 := C37_29
abbrev C37r : List RV := [.t 6]
theorem C37ok : Okf Tryz.prog 37 Tryz.f37 C37 C37r := ⟨Tryz.func37, by kernel_rfl, by kernel_rfl, by kernel_rfl⟩

abbrev C44_0 := Ro [Al 2 [.nils,.nils,.nils]]
abbrev C44_1 : ACode := .dregt [Mv 3 t0,⟨(some 4),none,.e (.mks 1 [.int .u8 0] t3 t3)⟩,Mv 5 t0,Bn 6 .quo t5 (kI 64),⟨(some 7),none,.e (.mks 1 [.bool false] t6 t6)⟩,Mv 8 t0,Bn 9 .quo t8 (kI 64),⟨(some 10),none,.e (.mks 8 [.int .u64 0] t9 t9)⟩,⟨(some 11),none,.r (.bld [.nils,.nils,.nils] [(0,1,t4),(1,1,t7),(2,1,t10)])⟩,Sxn 3 t2 t11] [[],[0,0],[],[2],[3,3],[],[5],[6,6],[1,4,7],[8,0,1,2,3,4,5,6,7,8]] (.r 0 (.r 2 (.r 3 (.r 5 (.r 6 (.e 1 [2,3,5,6] (.e 4 [0,5,6] (.e 7 [0,2,3] (.r 8 (.e 9 [] .nil .nil)) .nil) (.e 7 [0,2,3] (.e 4 [0,5,6] (.r 8 (.e 9 [] .nil .nil)) .nil) .nil)) (.e 4 [0,5,6] (.e 1 [2,3,5,6] (.e 7 [0,2,3] (.r 8 (.e 9 [] .nil .nil)) .nil) (.e 7 [0,2,3] (.e 1 [2,3,5,6] (.r 8 (.e 9 [] .nil .nil)) .nil) .nil)) (.e 7 [0,2,3] (.e 1 [2,3,5,6] (.e 4 [0,5,6] (.r 8 (.e 9 [] .nil .nil)) .nil) (.e 4 [0,5,6] (.e 1 [2,3,5,6] (.r 8 (.e 9 [] .nil .nil)) .nil) .nil)) .nil))))))))
abbrev C44_2 := Sq [2] C44_1 .ret
abbrev C44_3 := Sq [0,2] C44_0 C44_2
abbrev C44 := C44_3
abbrev C44r : List RV := [.c 2 (some 3)]
theorem C44ok : Okf Tryz.prog 44 Tryz.f44 C44 C44r := ⟨Tryz.func44, by kernel_rfl, by kernel_rfl, by kernel_rfl⟩

abbrev C45_0 := Ro [As 6 kS]
abbrev C45_1 := Ro [Mv 8 t1,Cv 9 .i64 t8,Bn 10 .sub t9 (kI 2147483648),As 7 t10]
abbrev C45_2 := Dr [⟨(some 11),none,.e (.bsl 0 [] [])⟩,Mv 12 t0,Mv 13 t7,⟨(some 14),none,.r (.sls 1 t12 none (some t13))⟩,Ap 15 1 1 t11 t14,Mv 16 t2,Ap 17 1 1 t15 t16,Mv 18 t0,Mv 19 t7,Mv 20 t2,Ln 21 t20,Bn 22 .add t19 t21,⟨(some 23),none,.r (.sls 1 t18 (some t22) none)⟩,Ap 24 1 1 t17 t23,As 6 t24] [[],[],[],[1,2],[0,3],[],[4,5,4],[],[],[],[9],[8,10],[7,11],[6,12,6],[13,13,0,1,2,3,4,5,6,7,8,9,10,11,12,13]] [(1,[]),(2,[]),(3,[]),(5,[]),(7,[]),(8,[]),(9,[]),(10,[]),(11,[]),(12,[]),(0,[1,2,3,5,7,8,9,10,11,12]),(4,[5,7,8,9,10,11,12]),(6,[7,8,9,10,11,12]),(13,[]),(14,[])]
abbrev C45_3 := Sq [6] C45_2 .ret
abbrev C45_4 := Sq [0,2,7] C45_1 C45_3
abbrev C45_5 := Sq [0,1,2] C45_0 C45_4
abbrev C45 := C45_5
abbrev C45r : List RV := [.t 6]
theorem C45ok : Okf Tryz.prog 45 Tryz.f45 C45 C45r := ⟨Tryz.func45, by kernel_rfl, by kernel_rfl, by kernel_rfl⟩

abbrev C46_0 := Ro [As 4 kF]
abbrev C46_1 := Ro [Mv 6 t0,Ln 7 t6,Mv 8 t1,Ln 9 t8,Bn 10 .neq t7 t9]
abbrev C46_2 := Ro [As 4 kF]
abbrev C46_3 := Sq [4] C46_2 .ret
abbrev C46_4 := Cd t10 C46_3 .skip
abbrev C46_5 := Sq [0,1,10] C46_1 C46_4
abbrev C46_6 := Ro [As 5 (kI 0)]
abbrev C46_7 := Ro [Mv 11 t5,Mv 12 t0,Ln 13 t12,Bn 14 .lss t11 t13]
abbrev C46_8 := Cd t14 .skip (.exit 0)
abbrev C46_9 := Sq [0,1,5,14] C46_7 C46_8
abbrev C46_10 := Dr [Mv 17 t0,Mv 18 t5,Ix 19 1 t17 t18,Ld 20 none t19,Mv 21 t1,Mv 22 t5,Ix 23 1 t21 t22,Ld 24 none t23,Bn 25 .neq t20 t24] [[],[],[0,1],[2],[],[],[4,5],[6],[3,7]] [(0,[]),(1,[]),(2,[]),(3,[]),(4,[]),(5,[]),(6,[]),(7,[]),(8,[])]
abbrev C46_11 := Ro [As 4 kF]
abbrev C46_12 := Sq [4] C46_11 .ret
abbrev C46_13 := Cd t25 C46_12 .skip
abbrev C46_14 := Sq [0,1,5,25] C46_10 C46_13
abbrev C46_15 := Bk 1 C46_14
abbrev C46_16 := Ro [Mv 15 t5,Bn 16 .add t15 (kI 1),As 5 t16]
abbrev C46_17 := Sq [0,1,5] C46_15 C46_16
abbrev C46_18 := Sq [0,1,5] C46_9 C46_17
abbrev C46_19 : ACode := .loop C46_18
abbrev C46_20 := Bk 0 C46_19
abbrev C46_21 := Sq [0,1,5] C46_6 C46_20
abbrev C46_22 := Ro [As 4 kT]
abbrev C46_23 := Sq [4] C46_22 .ret
abbrev C46_24 := Sq [] C46_21 C46_23
abbrev C46_25 := Sq [0,1] C46_5 C46_24
abbrev C46_26 := Sq [0,1] C46_0 C46_25
abbrev C46 := C46_26
abbrev C46r : List RV := [.t 4]
theorem C46ok : Okf Tryz.prog 46 Tryz.f46 C46 C46r := ⟨Tryz.func46, by kernel_rfl, by kernel_rfl, by kernel_rfl⟩

abbrev C47_0 := Ro [As 6 (kU 0)]
abbrev C47_1 := Ro [Mv 7 t0,Ca 8 87 [t7]]
abbrev C47_2 := Ro [Mv 9 t0,Mv 10 t1,Mv 11 t2,Ca 12 88 [t9,t10,t11],As 6 t12]
abbrev C47_3 := Sq [6] C47_2 .ret
abbrev C47_4 := Cd t8 C47_3 .skip
abbrev C47_5 := Sq [0,1,2,8] C47_1 C47_4
abbrev C47_6 := Ro [Mv 13 t0,Mv 14 t1,Mv 15 t2,Ca 16 89 [t13,t14,t15],As 6 t16]
abbrev C47_7 := Sq [6] C47_6 .ret
abbrev C47_8 := Sq [0,1,2] C47_5 C47_7
abbrev C47_9 := Sq [0,1,2] C47_0 C47_8
abbrev C47 := C47_9
abbrev C47r : List RV := [.t 6]
theorem C47ok : Okf Tryz.prog 47 Tryz.f47 C47 C47r := ⟨Tryz.func47, by kernel_rfl, by kernel_rfl, by kernel_rfl⟩

abbrev C48_0 := Ro [As 2 (kI 0)]
abbrev C48_1 := Ro [Mv 3 t0,Bn 4 .eql t3 (kI 11),Mv 5 t4,Mvf 6 5 t0,Bnf 7 5 .eql t6 (kI 14),Pk 8 t5 kT t7]
abbrev C48_2 := Ro [As 2 (kI 1)]
abbrev C48_3 := Sq [2] C48_2 .ret
abbrev C48_4 := Cd t8 C48_3 .skip
abbrev C48_5 := Sq [0,8] C48_1 C48_4
abbrev C48_6 := Ro [Mv 9 t0,Bn 10 .eql t9 (kI 12),Mv 11 t10,Mvf 12 11 t0,Bnf 13 11 .eql t12 (kI 15),Pk 14 t11 kT t13]
abbrev C48_7 := Ro [As 2 (kI 2)]
abbrev C48_8 := Sq [2] C48_7 .ret
abbrev C48_9 := Cd t14 C48_8 .skip
abbrev C48_10 := Sq [0,14] C48_6 C48_9
abbrev C48_11 := Ro [Mv 15 t0,Bn 16 .eql t15 (kI 13)]
abbrev C48_12 := Ro [As 2 (kI 4)]
abbrev C48_13 := Sq [2] C48_12 .ret
abbrev C48_14 := Cd t16 C48_13 .skip
abbrev C48_15 := Sq [16] C48_11 C48_14
abbrev C48_16 := Ro [As 2 (kI 0)]
abbrev C48_17 := Sq [2] C48_16 .ret
abbrev C48_18 := Sq [] C48_15 C48_17
abbrev C48_19 := Sq [0] C48_10 C48_18
abbrev C48_20 := Sq [0] C48_5 C48_19
abbrev C48_21 := Sq [0] C48_0 C48_20
abbrev C48 := C48_21
abbrev C48r : List RV := [.t 2]
theorem C48ok : Okf Tryz.prog 48 Tryz.f48 C48 C48r := ⟨Tryz.func48, by kernel_rfl, by kernel_rfl, by kernel_rfl⟩

abbrev C49_0 := Ro [As 6 (kI 0)]
abbrev C49_1 := Ro [Mv 7 t2,Ca 8 90 [t7],Un 9 .not t8]
abbrev C49_2 := Ro [As 6 (kI 2)]
abbrev C49_3 := Sq [6] C49_2 .ret
abbrev C49_4 := Cd t9 C49_3 .skip
abbrev C49_5 := Sq [0,1,2,9] C49_1 C49_4
abbrev C49_6 := Ro [Mv 10 t1,Cv 11 .i64 t10,Mv 12 t2,Bn 13 .rem t11 t12,Bn 14 .neq t13 (kI 0)]
abbrev C49_7 := Ro [As 6 (kI 5)]
abbrev C49_8 := Sq [6] C49_7 .ret
abbrev C49_9 := Cd t14 C49_8 .skip
abbrev C49_10 := Sq [0,1,2,14] C49_6 C49_9
abbrev C49_11 := Ro [Mv 15 t0,Mv 16 t1,Mv 17 t2,Ca 18 91 [t15,t16,t17],Un 19 .not t18]
abbrev C49_12 := Ro [As 6 (kI 6)]
abbrev C49_13 := Sq [6] C49_12 .ret
abbrev C49_14 := Cd t19 C49_13 .skip
abbrev C49_15 := Sq [19] C49_11 C49_14
abbrev C49_16 := Ro [As 6 (kI 0)]
abbrev C49_17 := Sq [6] C49_16 .ret
abbrev C49_18 := Sq [] C49_15 C49_17
abbrev C49_19 := Sq [0,1,2] C49_10 C49_18
abbrev C49_20 := Sq [0,1,2] C49_5 C49_19
abbrev C49_21 := Sq [0,1,2] C49_0 C49_20
abbrev C49 := C49_21
abbrev C49r : List RV := [.t 6]
theorem C49ok : Okf Tryz.prog 49 Tryz.f49 C49 C49r := ⟨Tryz.func49, by kernel_rfl, by kernel_rfl, by kernel_rfl⟩

abbrev C50_0 := Ro [Br 5 t0,Br 7 t2,Br 9 t4,Al 10 [z4,z4,z4,z4,z4,z4,z4,z4,z4,z4,z4,z4,z4,z4,z4,z4,z4,z4,z4,z4,z4,z4,z4,z4,z4,z4,z4,z4,z4,z4,z4,z4,z4,zi,zi,zi,.nils,.nils,.nils]]
abbrev C50_1 := Ro [Fa 14 2 t5,Ld 15 none t14,Mv 16 t1,Ix 17 5 t15 t16,Ld 18 (some 5) t17,Al 11 [zi,z4,zi,zi,.nils],Sxn 5 t11 t18]
abbrev C50_2 := Ro [Ld 19 (some 32) t7,Fa 20 1 t11,Ld 21 none t20,Fa 22 0 t11,Ld 23 none t22,Fa 24 3 t11,Ld 25 none t24,Mv 26 t1,Ld 27 (some 3) t9,⟨(some 28),none,.r (.bld [z4,z4,z4,z4,z4,z4,z4,z4,z4,z4,z4,z4,z4,z4,z4,z4,z4,z4,z4,z4,z4,z4,z4,z4,z4,z4,z4,z4,z4,z4,z4,z4,z4,zi,zi,zi,.nils,.nils,.nils] [(0,32,t19),(32,1,t21),(33,1,t23),(34,1,t25),(35,1,t26),(36,3,t27)])⟩,Al 12 [z4,z4,z4,z4,z4,z4,z4,z4,z4,z4,z4,z4,z4,z4,z4,z4,z4,z4,z4,z4,z4,z4,z4,z4,z4,z4,z4,z4,z4,z4,z4,z4,z4,zi,zi,zi,.nils,.nils,.nils],Sxn 39 t12 t28]
abbrev C50_3 := Ro [As 13 (kI 0)]
abbrev C50_4 := Ro [Mv 29 t13,Fa 30 4 t11,Ld 31 none t30,Ln 32 t31,Bn 33 .lss t29 t32]
abbrev C50_5 := Cd t33 .skip (.exit 0)
abbrev C50_6 := Sq [3,10,11,12,13,33] C50_4 C50_5
abbrev C50_7 := Dr [Fa 36 4 t11,Ld 37 none t36,Mv 38 t13,Ix 39 2 t37 t38,Fa 40 0 t39,Ld 41 none t40,Mv 42 t3,Fa 43 4 t11,Ld 44 none t43,Mv 45 t13,Ix 46 2 t44 t45,Fa 47 1 t46,Ld 48 none t47,Ix 49 1 t42 t48,Ld 50 none t49,Fa 51 0 t12,⟨(some 52),none,.r (.ixa 32 1 t51 t41)⟩,Sxn 1 t52 t50] [[],[0],[],[1,2],[3],[4],[],[],[7],[],[8,9],[10],[11],[6,12],[13],[],[15,5,0,1,2,3,4,5,6,7,8,9,10,11,12,13,14],[16,14,0,1,2,3,4,5,6,7,8,9,10,11,12,13,14]] [(0,[]),(1,[]),(2,[]),(3,[]),(4,[]),(5,[]),(6,[]),(7,[]),(8,[]),(9,[]),(10,[]),(11,[]),(12,[]),(13,[]),(14,[]),(15,[]),(16,[]),(17,[])]
abbrev C50_8 := Bk 1 C50_7
abbrev C50_9 := Ro [Mv 34 t13,Bn 35 .add t34 (kI 1),As 13 t35]
abbrev C50_10 := Sq [3,10,11,12,13] C50_8 C50_9
abbrev C50_11 := Sq [3,10,11,12,13] C50_6 C50_10
abbrev C50_12 : ACode := .loop C50_11
abbrev C50_13 := Bk 0 C50_12
abbrev C50_14 := Sq [3,10,11,12,13] C50_3 C50_13
abbrev C50_15 := Ro [Fa 53 2 t11,Ld 54 none t53,Bn 55 .neq t54 (kI (-1))]
abbrev C50_16 := Ro [Mv 56 t3,Fa 57 2 t11,Ld 58 none t57,Ix 59 1 t56 t58,Ld 60 none t59,Fa 61 32 t12,Sxn 1 t61 t60]
abbrev C50_17 := Cd t55 C50_16 .skip
abbrev C50_18 := Sq [3,10,11,12,55] C50_15 C50_17
abbrev C50_19 := Ro [Ld 62 (some 39) t12,Sxn 39 t10 t62]
abbrev C50_20 := Sq [10] C50_19 .ret
abbrev C50_21 := Sq [10,12] C50_18 C50_20
abbrev C50_22 := Sq [3,10,11,12] C50_14 C50_21
abbrev C50_23 := Sq [3,10,11,12] C50_2 C50_22
abbrev C50_24 : ACode := .fz 11 C50_23
abbrev C50_25 := Sq [1,3,7,9,10,11] C50_1 C50_24
abbrev C50_26 := Sq [1,3,5,7,9,10] C50_0 C50_25
abbrev C50 := C50_26
abbrev C50r : List RV := [.c 10 (some 39)]
theorem C50ok : Okf Tryz.prog 50 Tryz.f50 C50 C50r := ⟨Tryz.func50, by kernel_rfl, by kernel_rfl, by kernel_rfl⟩

abbrev C51_0 := Ro [As 6 (kU 0)]
abbrev C51_1 := Ro [Mv 8 t1,Cv 9 .i64 t8,Bn 10 .sub t9 (kI 2147483648),As 7 t10]
abbrev C51_2 := Ro [Mv 11 t0,Mv 12 t7,Mv 13 t7,Mv 14 t2,Bn 15 .add t13 t14,⟨(some 16),none,.r (.sls 1 t11 (some t12) (some t15))⟩,Ca 17 92 [t16],As 6 t17]
abbrev C51_3 := Sq [6] C51_2 .ret
abbrev C51_4 := Sq [0,2,7] C51_1 C51_3
abbrev C51_5 := Sq [0,1,2] C51_0 C51_4
abbrev C51 := C51_5
abbrev C51r : List RV := [.t 6]
theorem C51ok : Okf Tryz.prog 51 Tryz.f51 C51 C51r := ⟨Tryz.func51, by kernel_rfl, by kernel_rfl, by kernel_rfl⟩

abbrev C52_0 := Ro [As 4 (kU 0)]
abbrev C52_1 := Ro [Mv 6 t0,Cv 7 .u64 t6,Mv 8 t1,Ca 9 93 [t8],Bn 10 .rem t7 t9,As 5 t10]
abbrev C52_2 := Ro [Mv 11 t5,Mv 12 t1,Bn 13 .sub t12 (kI 1),Ca 14 93 [t13],Bn 15 .geq t11 t14]
abbrev C52_3 := Ro [Mv 16 t5,Ca 17 93 [(kI 32)],Bn 18 .add t16 t17,Mv 19 t1,Ca 20 93 [t19],Bn 21 .sub t18 t20,As 5 t21]
abbrev C52_4 := Cd t15 C52_3 .skip
abbrev C52_5 := Sq [1,5,15] C52_2 C52_4
abbrev C52_6 := Ro [Mv 22 t5,Cv 23 .u32 t22,As 4 t23]
abbrev C52_7 := Sq [4] C52_6 .ret
abbrev C52_8 := Sq [5] C52_5 C52_7
abbrev C52_9 := Sq [1,5] C52_1 C52_8
abbrev C52_10 := Sq [0,1] C52_0 C52_9
abbrev C52 := C52_10
abbrev C52r : List RV := [.t 4]
theorem C52ok : Okf Tryz.prog 52 Tryz.f52 C52 C52r := ⟨Tryz.func52, by kernel_rfl, by kernel_rfl, by kernel_rfl⟩

abbrev C53_0 := Ro [As 2 (kI 0)]
abbrev C53_1 := Ro [Mv 3 t0,Bn 4 .eql t3 (kI 16)]
abbrev C53_2 := Ro [As 2 (kI 1)]
abbrev C53_3 := Sq [2] C53_2 .ret
abbrev C53_4 := Cd t4 C53_3 .skip
abbrev C53_5 := Sq [0,4] C53_1 C53_4
abbrev C53_6 := Ro [Mv 5 t0,Bn 6 .eql t5 (kI 17)]
abbrev C53_7 := Ro [As 2 (kI 2)]
abbrev C53_8 := Sq [2] C53_7 .ret
abbrev C53_9 := Cd t6 C53_8 .skip
abbrev C53_10 := Sq [0,6] C53_6 C53_9
abbrev C53_11 := Ro [Mv 7 t0,Bn 8 .eql t7 (kI 18)]
abbrev C53_12 := Ro [As 2 (kI 4)]
abbrev C53_13 := Sq [2] C53_12 .ret
abbrev C53_14 := Cd t8 C53_13 .skip
abbrev C53_15 := Sq [8] C53_11 C53_14
abbrev C53_16 := Ro [As 2 (kI 0)]
abbrev C53_17 := Sq [2] C53_16 .ret
abbrev C53_18 := Sq [] C53_15 C53_17
abbrev C53_19 := Sq [0] C53_10 C53_18
abbrev C53_20 := Sq [0] C53_5 C53_19
abbrev C53_21 := Sq [0] C53_0 C53_20
abbrev C53 := C53_21
abbrev C53r : List RV := [.t 2]
theorem C53ok : Okf Tryz.prog 53 Tryz.f53 C53 C53r := ⟨Tryz.func53, by kernel_rfl, by kernel_rfl, by kernel_rfl⟩
end Go.Ab
end
section
/- The code of some functions, with what their types tell written out; each is what the translation gives (kernel_rfl). Printed by mk.py out of the translation. -/
namespace Go.Ab
open Go.Proofs Go.Sc
set_option maxRecDepth 100000
abbrev C54_0 := Ro [Br 4 t0,Al 8 [.nils,.nils,.nils],As 9 kF]
abbrev C54_1 : ACode := .dregt [Fa 12 0 t4,Ld 13 none t12,Mv 14 t1,Mv 15 t3,Mv 16 t2,Ca 17 94 [t15,t16],Ca 18 45 [t13,t14,t17],⟨(some 19),none,.e (.bsl 0 [] [])⟩,Fa 20 1 t4,Ld 21 none t20,Ap 22 1 1 t19 t21,⟨(some 23),none,.e (.bsl 0 [] [])⟩,Fa 24 2 t4,Ld 25 none t24,Ap 26 1 8 t23 t25,⟨(some 27),none,.r (.bld [.nils,.nils,.nils] [(0,1,t18),(1,1,t22),(2,1,t26)])⟩,Al 10 [.nils,.nils,.nils],Sxn 3 t10 t27] [[],[0],[],[],[],[3,4],[1,2,5,5],[],[],[8],[7,9,6],[],[],[12],[11,13,10],[6,10,14],[],[16,15,14,0,1,2,3,4,5,6,7,8,9,10,11,12,13,14,15,16]] (.r 0 (.r 1 (.r 2 (.r 3 (.r 4 (.r 8 (.r 9 (.r 12 (.r 13 (.e 5 [0,1,2,8,9,12,13] (.e 6 [8,9,12,13] (.e 7 [0,1,2,3,4,8,9,12,13] (.e 10 [12,13] (.e 11 [0,1,2,3,4,8,9,12,13] (.e 14 [] (.r 15 (.e 16 [0,1,2,3,4,8,9,12,13,15] (.e 17 [] .nil .nil) .nil)) (.e 16 [0,1,2,3,4,8,9,12,13] (.e 14 [] (.r 15 (.e 17 [] .nil .nil)) .nil) .nil)) (.e 16 [0,1,2,3,4,8,9,12,13] (.e 11 [0,1,2,3,4,8,9,12,13] (.e 14 [] (.r 15 (.e 17 [] .nil .nil)) .nil) .nil) .nil)) (.e 11 [0,1,2,3,4,8,9,12,13] (.e 10 [12,13] (.e 14 [] (.r 15 (.e 16 [0,1,2,3,4,8,9,12,13,15] (.e 17 [] .nil .nil) .nil)) (.e 16 [0,1,2,3,4,8,9,12,13] (.e 14 [] (.r 15 (.e 17 [] .nil .nil)) .nil) .nil)) (.e 16 [0,1,2,3,4,8,9,12,13] (.e 10 [12,13] (.e 14 [] (.r 15 (.e 17 [] .nil .nil)) .nil) .nil) .nil)) (.e 16 [0,1,2,3,4,8,9,12,13] (.e 10 [12,13] (.e 11 [0,1,2,3,4,8,9,12,13] (.e 14 [] (.r 15 (.e 17 [] .nil .nil)) .nil) .nil) (.e 11 [0,1,2,3,4,8,9,12,13] (.e 10 [12,13] (.e 14 [] (.r 15 (.e 17 [] .nil .nil)) .nil) .nil) .nil)) .nil))) (.e 11 [0,1,2,3,4,8,9,12,13] (.e 7 [0,1,2,3,4,8,9,12,13] (.e 10 [12,13] (.e 14 [] (.r 15 (.e 16 [0,1,2,3,4,8,9,12,13,15] (.e 17 [] .nil .nil) .nil)) (.e 16 [0,1,2,3,4,8,9,12,13] (.e 14 [] (.r 15 (.e 17 [] .nil .nil)) .nil) .nil)) (.e 16 [0,1,2,3,4,8,9,12,13] (.e 10 [12,13] (.e 14 [] (.r 15 (.e 17 [] .nil .nil)) .nil) .nil) .nil)) (.e 16 [0,1,2,3,4,8,9,12,13] (.e 7 [0,1,2,3,4,8,9,12,13] (.e 10 [12,13] (.e 14 [] (.r 15 (.e 17 [] .nil .nil)) .nil) .nil) .nil) .nil)) (.e 16 [0,1,2,3,4,8,9,12,13] (.e 7 [0,1,2,3,4,8,9,12,13] (.e 10 [12,13] (.e 11 [0,1,2,3,4,8,9,12,13] (.e 14 [] (.r 15 (.e 17 [] .nil .nil)) .nil) .nil) (.e 11 [0,1,2,3,4,8,9,12,13] (.e 10 [12,13] (.e 14 [] (.r 15 (.e 17 [] .nil .nil)) .nil) .nil) .nil)) (.e 11 [0,1,2,3,4,8,9,12,13] (.e 7 [0,1,2,3,4,8,9,12,13] (.e 10 [12,13] (.e 14 [] (.r 15 (.e 17 [] .nil .nil)) .nil) .nil) .nil) .nil)) .nil))) (.e 7 [0,1,2,3,4,8,9,12,13] (.e 6 [8,9,12,13] (.e 10 [12,13] (.e 11 [0,1,2,3,4,8,9,12,13] (.e 14 [] (.r 15 (.e 16 [0,1,2,3,4,8,9,12,13,15] (.e 17 [] .nil .nil) .nil)) (.e 16 [0,1,2,3,4,8,9,12,13] (.e 14 [] (.r 15 (.e 17 [] .nil .nil)) .nil) .nil)) (.e 16 [0,1,2,3,4,8,9,12,13] (.e 11 [0,1,2,3,4,8,9,12,13] (.e 14 [] (.r 15 (.e 17 [] .nil .nil)) .nil) .nil) .nil)) (.e 11 [0,1,2,3,4,8,9,12,13] (.e 10 [12,13] (.e 14 [] (.r 15 (.e 16 [0,1,2,3,4,8,9,12,13,15] (.e 17 [] .nil .nil) .nil)) (.e 16 [0,1,2,3,4,8,9,12,13] (.e 14 [] (.r 15 (.e 17 [] .nil .nil)) .nil) .nil)) (.e 16 [0,1,2,3,4,8,9,12,13] (.e 10 [12,13] (.e 14 [] (.r 15 (.e 17 [] .nil .nil)) .nil) .nil) .nil)) (.e 16 [0,1,2,3,4,8,9,12,13] (.e 10 [12,13] (.e 11 [0,1,2,3,4,8,9,12,13] (.e 14 [] (.r 15 (.e 17 [] .nil .nil)) .nil) .nil) (.e 11 [0,1,2,3,4,8,9,12,13] (.e 10 [12,13] (.e 14 [] (.r 15 (.e 17 [] .nil .nil)) .nil) .nil) .nil)) .nil))) (.e 11 [0,1,2,3,4,8,9,12,13] (.e 6 [8,9,12,13] (.e 10 [12,13] (.e 14 [] (.r 15 (.e 16 [0,1,2,3,4,8,9,12,13,15] (.e 17 [] .nil .nil) .nil)) (.e 16 [0,1,2,3,4,8,9,12,13] (.e 14 [] (.r 15 (.e 17 [] .nil .nil)) .nil) .nil)) (.e 16 [0,1,2,3,4,8,9,12,13] (.e 10 [12,13] (.e 14 [] (.r 15 (.e 17 [] .nil .nil)) .nil) .nil) .nil)) (.e 16 [0,1,2,3,4,8,9,12,13] (.e 6 [8,9,12,13] (.e 10 [12,13] (.e 14 [] (.r 15 (.e 17 [] .nil .nil)) .nil) .nil) .nil) .nil)) (.e 16 [0,1,2,3,4,8,9,12,13] (.e 6 [8,9,12,13] (.e 10 [12,13] (.e 11 [0,1,2,3,4,8,9,12,13] (.e 14 [] (.r 15 (.e 17 [] .nil .nil)) .nil) .nil) (.e 11 [0,1,2,3,4,8,9,12,13] (.e 10 [12,13] (.e 14 [] (.r 15 (.e 17 [] .nil .nil)) .nil) .nil) .nil)) (.e 11 [0,1,2,3,4,8,9,12,13] (.e 6 [8,9,12,13] (.e 10 [12,13] (.e 14 [] (.r 15 (.e 17 [] .nil .nil)) .nil) .nil) .nil) .nil)) .nil))) (.e 11 [0,1,2,3,4,8,9,12,13] (.e 6 [8,9,12,13] (.e 7 [0,1,2,3,4,8,9,12,13] (.e 10 [12,13] (.e 14 [] (.r 15 (.e 16 [0,1,2,3,4,8,9,12,13,15] (.e 17 [] .nil .nil) .nil)) (.e 16 [0,1,2,3,4,8,9,12,13] (.e 14 [] (.r 15 (.e 17 [] .nil .nil)) .nil) .nil)) (.e 16 [0,1,2,3,4,8,9,12,13] (.e 10 [12,13] (.e 14 [] (.r 15 (.e 17 [] .nil .nil)) .nil) .nil) .nil)) (.e 16 [0,1,2,3,4,8,9,12,13] (.e 7 [0,1,2,3,4,8,9,12,13] (.e 10 [12,13] (.e 14 [] (.r 15 (.e 17 [] .nil .nil)) .nil) .nil) .nil) .nil)) (.e 7 [0,1,2,3,4,8,9,12,13] (.e 6 [8,9,12,13] (.e 10 [12,13] (.e 14 [] (.r 15 (.e 16 [0,1,2,3,4,8,9,12,13,15] (.e 17 [] .nil .nil) .nil)) (.e 16 [0,1,2,3,4,8,9,12,13] (.e 14 [] (.r 15 (.e 17 [] .nil .nil)) .nil) .nil)) (.e 16 [0,1,2,3,4,8,9,12,13] (.e 10 [12,13] (.e 14 [] (.r 15 (.e 17 [] .nil .nil)) .nil) .nil) .nil)) (.e 16 [0,1,2,3,4,8,9,12,13] (.e 6 [8,9,12,13] (.e 10 [12,13] (.e 14 [] (.r 15 (.e 17 [] .nil .nil)) .nil) .nil) .nil) .nil)) (.e 16 [0,1,2,3,4,8,9,12,13] (.e 6 [8,9,12,13] (.e 7 [0,1,2,3,4,8,9,12,13] (.e 10 [12,13] (.e 14 [] (.r 15 (.e 17 [] .nil .nil)) .nil) .nil) .nil) (.e 7 [0,1,2,3,4,8,9,12,13] (.e 6 [8,9,12,13] (.e 10 [12,13] (.e 14 [] (.r 15 (.e 17 [] .nil .nil)) .nil) .nil) .nil) .nil)) .nil))) (.e 16 [0,1,2,3,4,8,9,12,13] (.e 6 [8,9,12,13] (.e 7 [0,1,2,3,4,8,9,12,13] (.e 10 [12,13] (.e 11 [0,1,2,3,4,8,9,12,13] (.e 14 [] (.r 15 (.e 17 [] .nil .nil)) .nil) .nil) (.e 11 [0,1,2,3,4,8,9,12,13] (.e 10 [12,13] (.e 14 [] (.r 15 (.e 17 [] .nil .nil)) .nil) .nil) .nil)) (.e 11 [0,1,2,3,4,8,9,12,13] (.e 7 [0,1,2,3,4,8,9,12,13] (.e 10 [12,13] (.e 14 [] (.r 15 (.e 17 [] .nil .nil)) .nil) .nil) .nil) .nil)) (.e 7 [0,1,2,3,4,8,9,12,13] (.e 6 [8,9,12,13] (.e 10 [12,13] (.e 11 [0,1,2,3,4,8,9,12,13] (.e 14 [] (.r 15 (.e 17 [] .nil .nil)) .nil) .nil) (.e 11 [0,1,2,3,4,8,9,12,13] (.e 10 [12,13] (.e 14 [] (.r 15 (.e 17 [] .nil .nil)) .nil) .nil) .nil)) (.e 11 [0,1,2,3,4,8,9,12,13] (.e 6 [8,9,12,13] (.e 10 [12,13] (.e 14 [] (.r 15 (.e 17 [] .nil .nil)) .nil) .nil) .nil) .nil)) (.e 11 [0,1,2,3,4,8,9,12,13] (.e 6 [8,9,12,13] (.e 7 [0,1,2,3,4,8,9,12,13] (.e 10 [12,13] (.e 14 [] (.r 15 (.e 17 [] .nil .nil)) .nil) .nil) .nil) (.e 7 [0,1,2,3,4,8,9,12,13] (.e 6 [8,9,12,13] (.e 10 [12,13] (.e 14 [] (.r 15 (.e 17 [] .nil .nil)) .nil) .nil) .nil) .nil)) .nil))) .nil)))) (.e 7 [0,1,2,3,4,8,9,12,13] (.e 5 [0,1,2,8,9,12,13] (.e 6 [8,9,12,13] (.e 10 [12,13] (.e 11 [0,1,2,3,4,8,9,12,13] (.e 14 [] (.r 15 (.e 16 [0,1,2,3,4,8,9,12,13,15] (.e 17 [] .nil .nil) .nil)) (.e 16 [0,1,2,3,4,8,9,12,13] (.e 14 [] (.r 15 (.e 17 [] .nil .nil)) .nil) .nil)) (.e 16 [0,1,2,3,4,8,9,12,13] (.e 11 [0,1,2,3,4,8,9,12,13] (.e 14 [] (.r 15 (.e 17 [] .nil .nil)) .nil) .nil) .nil)) (.e 11 [0,1,2,3,4,8,9,12,13] (.e 10 [12,13] (.e 14 [] (.r 15 (.e 16 [0,1,2,3,4,8,9,12,13,15] (.e 17 [] .nil .nil) .nil)) (.e 16 [0,1,2,3,4,8,9,12,13] (.e 14 [] (.r 15 (.e 17 [] .nil .nil)) .nil) .nil)) (.e 16 [0,1,2,3,4,8,9,12,13] (.e 10 [12,13] (.e 14 [] (.r 15 (.e 17 [] .nil .nil)) .nil) .nil) .nil)) (.e 16 [0,1,2,3,4,8,9,12,13] (.e 10 [12,13] (.e 11 [0,1,2,3,4,8,9,12,13] (.e 14 [] (.r 15 (.e 17 [] .nil .nil)) .nil) .nil) (.e 11 [0,1,2,3,4,8,9,12,13] (.e 10 [12,13] (.e 14 [] (.r 15 (.e 17 [] .nil .nil)) .nil) .nil) .nil)) .nil))) (.e 11 [0,1,2,3,4,8,9,12,13] (.e 6 [8,9,12,13] (.e 10 [12,13] (.e 14 [] (.r 15 (.e 16 [0,1,2,3,4,8,9,12,13,15] (.e 17 [] .nil .nil) .nil)) (.e 16 [0,1,2,3,4,8,9,12,13] (.e 14 [] (.r 15 (.e 17 [] .nil .nil)) .nil) .nil)) (.e 16 [0,1,2,3,4,8,9,12,13] (.e 10 [12,13] (.e 14 [] (.r 15 (.e 17 [] .nil .nil)) .nil) .nil) .nil)) (.e 16 [0,1,2,3,4,8,9,12,13] (.e 6 [8,9,12,13] (.e 10 [12,13] (.e 14 [] (.r 15 (.e 17 [] .nil .nil)) .nil) .nil) .nil) .nil)) (.e 16 [0,1,2,3,4,8,9,12,13] (.e 6 [8,9,12,13] (.e 10 [12,13] (.e 11 [0,1,2,3,4,8,9,12,13] (.e 14 [] (.r 15 (.e 17 [] .nil .nil)) .nil) .nil) (.e 11 [0,1,2,3,4,8,9,12,13] (.e 10 [12,13] (.e 14 [] (.r 15 (.e 17 [] .nil .nil)) .nil) .nil) .nil)) (.e 11 [0,1,2,3,4,8,9,12,13] (.e 6 [8,9,12,13] (.e 10 [12,13] (.e 14 [] (.r 15 (.e 17 [] .nil .nil)) .nil) .nil) .nil) .nil)) .nil))) (.e 11 [0,1,2,3,4,8,9,12,13] (.e 5 [0,1,2,8,9,12,13] (.e 6 [8,9,12,13] (.e 10 [12,13] (.e 14 [] (.r 15 (.e 16 [0,1,2,3,4,8,9,12,13,15] (.e 17 [] .nil .nil) .nil)) (.e 16 [0,1,2,3,4,8,9,12,13] (.e 14 [] (.r 15 (.e 17 [] .nil .nil)) .nil) .nil)) (.e 16 [0,1,2,3,4,8,9,12,13] (.e 10 [12,13] (.e 14 [] (.r 15 (.e 17 [] .nil .nil)) .nil) .nil) .nil)) (.e 16 [0,1,2,3,4,8,9,12,13] (.e 6 [8,9,12,13] (.e 10 [12,13] (.e 14 [] (.r 15 (.e 17 [] .nil .nil)) .nil) .nil) .nil) .nil)) (.e 16 [0,1,2,3,4,8,9,12,13] (.e 5 [0,1,2,8,9,12,13] (.e 6 [8,9,12,13] (.e 10 [12,13] (.e 14 [] (.r 15 (.e 17 [] .nil .nil)) .nil) .nil) .nil) .nil) .nil)) (.e 16 [0,1,2,3,4,8,9,12,13] (.e 5 [0,1,2,8,9,12,13] (.e 6 [8,9,12,13] (.e 10 [12,13] (.e 11 [0,1,2,3,4,8,9,12,13] (.e 14 [] (.r 15 (.e 17 [] .nil .nil)) .nil) .nil) (.e 11 [0,1,2,3,4,8,9,12,13] (.e 10 [12,13] (.e 14 [] (.r 15 (.e 17 [] .nil .nil)) .nil) .nil) .nil)) (.e 11 [0,1,2,3,4,8,9,12,13] (.e 6 [8,9,12,13] (.e 10 [12,13] (.e 14 [] (.r 15 (.e 17 [] .nil .nil)) .nil) .nil) .nil) .nil)) (.e 11 [0,1,2,3,4,8,9,12,13] (.e 5 [0,1,2,8,9,12,13] (.e 6 [8,9,12,13] (.e 10 [12,13] (.e 14 [] (.r 15 (.e 17 [] .nil .nil)) .nil) .nil) .nil) .nil) .nil)) .nil))) (.e 11 [0,1,2,3,4,8,9,12,13] (.e 5 [0,1,2,8,9,12,13] (.e 6 [8,9,12,13] (.e 7 [0,1,2,3,4,8,9,12,13] (.e 10 [12,13] (.e 14 [] (.r 15 (.e 16 [0,1,2,3,4,8,9,12,13,15] (.e 17 [] .nil .nil) .nil)) (.e 16 [0,1,2,3,4,8,9,12,13] (.e 14 [] (.r 15 (.e 17 [] .nil .nil)) .nil) .nil)) (.e 16 [0,1,2,3,4,8,9,12,13] (.e 10 [12,13] (.e 14 [] (.r 15 (.e 17 [] .nil .nil)) .nil) .nil) .nil)) (.e 16 [0,1,2,3,4,8,9,12,13] (.e 7 [0,1,2,3,4,8,9,12,13] (.e 10 [12,13] (.e 14 [] (.r 15 (.e 17 [] .nil .nil)) .nil) .nil) .nil) .nil)) (.e 7 [0,1,2,3,4,8,9,12,13] (.e 6 [8,9,12,13] (.e 10 [12,13] (.e 14 [] (.r 15 (.e 16 [0,1,2,3,4,8,9,12,13,15] (.e 17 [] .nil .nil) .nil)) (.e 16 [0,1,2,3,4,8,9,12,13] (.e 14 [] (.r 15 (.e 17 [] .nil .nil)) .nil) .nil)) (.e 16 [0,1,2,3,4,8,9,12,13] (.e 10 [12,13] (.e 14 [] (.r 15 (.e 17 [] .nil .nil)) .nil) .nil) .nil)) (.e 16 [0,1,2,3,4,8,9,12,13] (.e 6 [8,9,12,13] (.e 10 [12,13] (.e 14 [] (.r 15 (.e 17 [] .nil .nil)) .nil) .nil) .nil) .nil)) (.e 16 [0,1,2,3,4,8,9,12,13] (.e 6 [8,9,12,13] (.e 7 [0,1,2,3,4,8,9,12,13] (.e 10 [12,13] (.e 14 [] (.r 15 (.e 17 [] .nil .nil)) .nil) .nil) .nil) (.e 7 [0,1,2,3,4,8,9,12,13] (.e 6 [8,9,12,13] (.e 10 [12,13] (.e 14 [] (.r 15 (.e 17 [] .nil .nil)) .nil) .nil) .nil) .nil)) .nil))) (.e 7 [0,1,2,3,4,8,9,12,13] (.e 5 [0,1,2,8,9,12,13] (.e 6 [8,9,12,13] (.e 10 [12,13] (.e 14 [] (.r 15 (.e 16 [0,1,2,3,4,8,9,12,13,15] (.e 17 [] .nil .nil) .nil)) (.e 16 [0,1,2,3,4,8,9,12,13] (.e 14 [] (.r 15 (.e 17 [] .nil .nil)) .nil) .nil)) (.e 16 [0,1,2,3,4,8,9,12,13] (.e 10 [12,13] (.e 14 [] (.r 15 (.e 17 [] .nil .nil)) .nil) .nil) .nil)) (.e 16 [0,1,2,3,4,8,9,12,13] (.e 6 [8,9,12,13] (.e 10 [12,13] (.e 14 [] (.r 15 (.e 17 [] .nil .nil)) .nil) .nil) .nil) .nil)) (.e 16 [0,1,2,3,4,8,9,12,13] (.e 5 [0,1,2,8,9,12,13] (.e 6 [8,9,12,13] (.e 10 [12,13] (.e 14 [] (.r 15 (.e 17 [] .nil .nil)) .nil) .nil) .nil) .nil) .nil)) (.e 16 [0,1,2,3,4,8,9,12,13] (.e 5 [0,1,2,8,9,12,13] (.e 6 [8,9,12,13] (.e 7 [0,1,2,3,4,8,9,12,13] (.e 10 [12,13] (.e 14 [] (.r 15 (.e 17 [] .nil .nil)) .nil) .nil) .nil) (.e 7 [0,1,2,3,4,8,9,12,13] (.e 6 [8,9,12,13] (.e 10 [12,13] (.e 14 [] (.r 15 (.e 17 [] .nil .nil)) .nil) .nil) .nil) .nil)) (.e 7 [0,1,2,3,4,8,9,12,13] (.e 5 [0,1,2,8,9,12,13] (.e 6 [8,9,12,13] (.e 10 [12,13] (.e 14 [] (.r 15 (.e 17 [] .nil .nil)) .nil) .nil) .nil) .nil) .nil)) .nil))) (.e 16 [0,1,2,3,4,8,9,12,13] (.e 5 [0,1,2,8,9,12,13] (.e 6 [8,9,12,13] (.e 7 [0,1,2,3,4,8,9,12,13] (.e 10 [12,13] (.e 11 [0,1,2,3,4,8,9,12,13] (.e 14 [] (.r 15 (.e 17 [] .nil .nil)) .nil) .nil) (.e 11 [0,1,2,3,4,8,9,12,13] (.e 10 [12,13] (.e 14 [] (.r 15 (.e 17 [] .nil .nil)) .nil) .nil) .nil)) (.e 11 [0,1,2,3,4,8,9,12,13] (.e 7 [0,1,2,3,4,8,9,12,13] (.e 10 [12,13] (.e 14 [] (.r 15 (.e 17 [] .nil .nil)) .nil) .nil) .nil) .nil)) (.e 7 [0,1,2,3,4,8,9,12,13] (.e 6 [8,9,12,13] (.e 10 [12,13] (.e 11 [0,1,2,3,4,8,9,12,13] (.e 14 [] (.r 15 (.e 17 [] .nil .nil)) .nil) .nil) (.e 11 [0,1,2,3,4,8,9,12,13] (.e 10 [12,13] (.e 14 [] (.r 15 (.e 17 [] .nil .nil)) .nil) .nil) .nil)) (.e 11 [0,1,2,3,4,8,9,12,13] (.e 6 [8,9,12,13] (.e 10 [12,13] (.e 14 [] (.r 15 (.e 17 [] .nil .nil)) .nil) .nil) .nil) .nil)) (.e 11 [0,1,2,3,4,8,9,12,13] (.e 6 [8,9,12,13] (.e 7 [0,1,2,3,4,8,9,12,13] (.e 10 [12,13] (.e 14 [] (.r 15 (.e 17 [] .nil .nil)) .nil) .nil) .nil) (.e 7 [0,1,2,3,4,8,9,12,13] (.e 6 [8,9,12,13] (.e 10 [12,13] (.e 14 [] (.r 15 (.e 17 [] .nil .nil)) .nil) .nil) .nil) .nil)) .nil))) (.e 7 [0,1,2,3,4,8,9,12,13] (.e 5 [0,1,2,8,9,12,13] (.e 6 [8,9,12,13] (.e 10 [12,13] (.e 11 [0,1,2,3,4,8,9,12,13] (.e 14 [] (.r 15 (.e 17 [] .nil .nil)) .nil) .nil) (.e 11 [0,1,2,3,4,8,9,12,13] (.e 10 [12,13] (.e 14 [] (.r 15 (.e 17 [] .nil .nil)) .nil) .nil) .nil)) (.e 11 [0,1,2,3,4,8,9,12,13] (.e 6 [8,9,12,13] (.e 10 [12,13] (.e 14 [] (.r 15 (.e 17 [] .nil .nil)) .nil) .nil) .nil) .nil)) (.e 11 [0,1,2,3,4,8,9,12,13] (.e 5 [0,1,2,8,9,12,13] (.e 6 [8,9,12,13] (.e 10 [12,13] (.e 14 [] (.r 15 (.e 17 [] .nil .nil)) .nil) .nil) .nil) .nil) .nil)) (.e 11 [0,1,2,3,4,8,9,12,13] (.e 5 [0,1,2,8,9,12,13] (.e 6 [8,9,12,13] (.e 7 [0,1,2,3,4,8,9,12,13] (.e 10 [12,13] (.e 14 [] (.r 15 (.e 17 [] .nil .nil)) .nil) .nil) .nil) (.e 7 [0,1,2,3,4,8,9,12,13] (.e 6 [8,9,12,13] (.e 10 [12,13] (.e 14 [] (.r 15 (.e 17 [] .nil .nil)) .nil) .nil) .nil) .nil)) (.e 7 [0,1,2,3,4,8,9,12,13] (.e 5 [0,1,2,8,9,12,13] (.e 6 [8,9,12,13] (.e 10 [12,13] (.e 14 [] (.r 15 (.e 17 [] .nil .nil)) .nil) .nil) .nil) .nil) .nil)) .nil))) .nil)))))))))))))
abbrev C54_2 := Ro [Mv 28 t1,Cv 29 .i64 t28,Bn 30 .sub t29 (kI 2147483648),Bn 31 .quo t30 (kI 64),As 11 t31]
abbrev C54_3 := Ro [Fa 32 1 t10,Ld 33 none t32,Mv 34 t11,Ix 35 1 t33 t34,Ld 36 none t35,Un 37 .not t36]
abbrev C54_4 := Ro [Ld 38 (some 3) t10,Sxn 3 t8 t38,As 9 kF]
abbrev C54_5 := Sq [8,9] C54_4 .ret
abbrev C54_6 := Cd t37 C54_5 .skip
abbrev C54_7 := Sq [8,10,11,37] C54_3 C54_6
abbrev C54_8 := Ro [Fa 39 1 t10,Ld 40 none t39,Mv 41 t11,Ix 42 1 t40 t41,Sxn 1 t42 kF]
abbrev C54_9 := Ro [Fa 43 2 t10,Ld 44 none t43,Mv 45 t11,Ix 46 1 t44 t45,Ld 47 none t46,Bn 48 .add t47 (kL 1),Ix 49 1 t44 t45,Sxn 1 t49 t48]
abbrev C54_10 := Ro [Ld 50 (some 3) t10,Sxn 3 t8 t50,As 9 kT]
abbrev C54_11 := Sq [8,9] C54_10 .ret
abbrev C54_12 := Sq [8,10] C54_9 C54_11
abbrev C54_13 := Sq [8,10,11] C54_8 C54_12
abbrev C54_14 := Sq [8,10,11] C54_7 C54_13
abbrev C54_15 := Sq [8,10,11] C54_2 C54_14
abbrev C54_16 := Sq [1,8,10] C54_1 C54_15
abbrev C54_17 := Sq [1,2,3,4,8] C54_0 C54_16
abbrev C54 := C54_17
abbrev C54r : List RV := [.c 8 (some 3),.t 9]
theorem C54ok : Okf Tryz.prog 54 Tryz.f54 C54 C54r := ⟨Tryz.func54, by kernel_rfl, by kernel_rfl, by kernel_rfl⟩

abbrev C55_0 := Ro [As 6 kF]
abbrev C55_1 := Ro [Mv 9 t1,Ca 10 95 [t9],As 7 t10]
abbrev C55_2 := Ro [Mv 11 t2,Ca 12 95 [t11],As 8 t12]
abbrev C55_3 := Ro [Mv 13 t0]
abbrev C55_4 := Ro [Bn 15 .eql t13 (kI 5),As 14 t15]
abbrev C55_5 := Ro [Mv 16 t7,Mv 17 t8,Bn 18 .eql t16 t17,As 6 t18]
abbrev C55_6 := Sq [6] C55_5 .ret
abbrev C55_7 := Ro [Bn 20 .eql t13 (kI 6),As 19 t20]
abbrev C55_8 := Ro [Mv 21 t7,Mv 22 t8,Bn 23 .neq t21 t22,As 6 t23]
abbrev C55_9 := Sq [6] C55_8 .ret
abbrev C55_10 := Ro [Bn 25 .eql t13 (kI 7),As 24 t25]
abbrev C55_11 := Ro [Mv 26 t7,Mv 27 t8,Bn 28 .lss t26 t27,As 6 t28]
abbrev C55_12 := Sq [6] C55_11 .ret
abbrev C55_13 := Ro [Bn 30 .eql t13 (kI 8),As 29 t30]
abbrev C55_14 := Ro [Mv 31 t7,Mv 32 t8,Bn 33 .geq t31 t32,As 6 t33]
abbrev C55_15 := Sq [6] C55_14 .ret
abbrev C55_16 := Ro [Bn 35 .eql t13 (kI 9),As 34 t35]
abbrev C55_17 := Ro [Mv 36 t1,Cv 37 .i64 t36,Mv 38 t2,Cv 39 .i64 t38,Bn 40 .lss t37 t39,As 6 t40]
abbrev C55_18 := Sq [6] C55_17 .ret
abbrev C55_19 := Cd t34 C55_18 .skip
abbrev C55_20 := Sq [1,2,34] C55_16 C55_19
abbrev C55_21 := Cd t29 C55_15 C55_20
abbrev C55_22 := Sq [1,2,7,8,13,29] C55_13 C55_21
abbrev C55_23 := Cd t24 C55_12 C55_22
abbrev C55_24 := Sq [1,2,7,8,13,24] C55_10 C55_23
abbrev C55_25 := Cd t19 C55_9 C55_24
abbrev C55_26 := Sq [1,2,7,8,13,19] C55_7 C55_25
abbrev C55_27 := Cd t14 C55_6 C55_26
abbrev C55_28 := Sq [1,2,7,8,13,14] C55_4 C55_27
abbrev C55_29 := Bk 0 C55_28
abbrev C55_30 := Sq [1,2,7,8,13] C55_3 C55_29
abbrev C55_31 := Ro [Mv 41 t1,Cv 42 .i64 t41,Mv 43 t2,Cv 44 .i64 t43,Bn 45 .geq t42 t44,As 6 t45]
abbrev C55_32 := Sq [6] C55_31 .ret
abbrev C55_33 := Sq [1,2] C55_30 C55_32
abbrev C55_34 := Sq [0,1,2,7,8] C55_2 C55_33
abbrev C55_35 := Sq [0,1,2,7] C55_1 C55_34
abbrev C55_36 := Sq [0,1,2] C55_0 C55_35
abbrev C55 := C55_36
abbrev C55r : List RV := [.t 6]
theorem C55ok : Okf Tryz.prog 55 Tryz.f55 C55 C55r := ⟨Tryz.func55, by kernel_rfl, by kernel_rfl, by kernel_rfl⟩

abbrev C60_0 := Ro [Br 1 t0,As 2 kF]
abbrev C60_1 := Ro [Fa 6 0 t1,Ld 7 none t6,Nc 8 t7,Fa 9 1 t8,Ld 10 none t9,Ln 11 t10,Mv 12 (kI 0)]
abbrev C60_2 := Ro [Bn 13 .lss t12 t11]
abbrev C60_3 := Cd t13 .skip (.exit 0)
abbrev C60_4 := Ro [Mv 14 t12,As 3 t14]
abbrev C60_5 := Ro [Ld 15 (some 1) t1,Mv 16 t3,Ca 17 99 [t15,t16],Un 18 .not t17]
abbrev C60_6 := Ro [As 2 kF]
abbrev C60_7 := Sq [2] C60_6 .ret
abbrev C60_8 := Cd t18 C60_7 .skip
abbrev C60_9 := Sq [1,11,12,18] C60_5 C60_8
abbrev C60_10 := Sq [1,3,11,12] C60_4 C60_9
abbrev C60_11 := Bk 1 C60_10
abbrev C60_12 := Ro [Bn 19 .add t12 (kI 1),Mv 12 t19]
abbrev C60_13 := Sq [1,11,12] C60_11 C60_12
abbrev C60_14 := Sq [1,11,12] C60_3 C60_13
abbrev C60_15 := Sq [1,11,12,13] C60_2 C60_14
abbrev C60_16 : ACode := .loop C60_15
abbrev C60_17 := Bk 0 C60_16
abbrev C60_18 := Sq [1,11,12] C60_1 C60_17
abbrev C60_19 := Ro [Fa 20 0 t1,Ld 21 none t20,Nc 22 t21,Fa 23 2 t22,Ld 24 none t23,Ln 25 t24,Mv 26 (kI 0)]
abbrev C60_20 := Ro [Bn 27 .lss t26 t25]
abbrev C60_21 := Cd t27 .skip (.exit 2)
abbrev C60_22 := Ro [Mv 28 t26,As 4 t28]
abbrev C60_23 := Ro [Ld 29 (some 1) t1,Mv 30 t4,Ca 31 100 [t29,t30],Un 32 .not t31]
abbrev C60_24 := Ro [As 2 kF]
abbrev C60_25 := Sq [2] C60_24 .ret
abbrev C60_26 := Cd t32 C60_25 .skip
abbrev C60_27 := Sq [1,25,26,32] C60_23 C60_26
abbrev C60_28 := Sq [1,4,25,26] C60_22 C60_27
abbrev C60_29 := Bk 3 C60_28
abbrev C60_30 := Ro [Bn 33 .add t26 (kI 1),Mv 26 t33]
abbrev C60_31 := Sq [1,25,26] C60_29 C60_30
abbrev C60_32 := Sq [1,25,26] C60_21 C60_31
abbrev C60_33 := Sq [1,25,26,27] C60_20 C60_32
abbrev C60_34 : ACode := .loop C60_33
abbrev C60_35 := Bk 2 C60_34
abbrev C60_36 := Sq [1,25,26] C60_19 C60_35
abbrev C60_37 := Ro [As 5 (.func 101)]
abbrev C60_38 := Dr [Fa 34 0 t1,Ld 35 none t34,Nc 36 t35,Fa 37 0 t36,Ld 38 none t37,Ln 39 t38,Bn 40 .gtr t39 (kI 0),Mv 41 t40,Fat 42 41 0 t1,Ldt 43 41 none t42,Nct 44 41 t43,Fat 45 41 0 t44,Ldt 46 41 none t45,Mvt 47 41 t5,Cat 48 41 102 [t46,t47],Unt 49 41 .not t48,Pk 50 t41 t49 kF,Mv 51 t50,Ldt 52 51 (some 1) t1,Fat 53 51 0 t1,Ldt 54 51 none t53,Nct 55 51 t54,Fat 56 51 3 t55,Ldt 57 51 none t56,Fat 58 51 0 t1,Ldt 59 51 none t58,Nct 60 51 t59,Fat 61 51 1 t60,Ldt 62 51 none t61,Lnt 63 51 t62,Cat 64 51 103 [t52,t57,t63],Pk 65 t51 t64 kF,As 2 t65] [[],[0],[1],[2],[3],[4],[5],[6],[7],[8,7],[9,7],[10,7],[11,7],[7],[12,13,7,7],[14,7],[7,15],[16,14],[17],[17],[19,17],[20,17],[21,17],[22,17],[17],[24,17],[25,17],[26,17],[27,17],[28,17],[18,23,29,17,17],[17,30],[31,30,0,1,2,3,4,5,6,7,8,9,10,11,12,13,14,15,16,17,18,19,20,21,22,23,24,25,26,27,28,29,30,31]] [(0,[]),(1,[]),(2,[]),(3,[]),(4,[]),(5,[]),(6,[]),(7,[]),(8,[]),(9,[]),(10,[]),(11,[]),(12,[]),(13,[]),(14,[]),(15,[]),(16,[]),(17,[]),(18,[]),(19,[]),(20,[]),(21,[]),(22,[]),(23,[]),(24,[]),(25,[]),(26,[]),(27,[]),(28,[]),(29,[]),(30,[]),(31,[]),(32,[])]
abbrev C60_39 := Sq [2] C60_38 .ret
abbrev C60_40 := Sq [1,5] C60_37 C60_39
abbrev C60_41 := Sq [1] C60_36 C60_40
abbrev C60_42 := Sq [1] C60_18 C60_41
abbrev C60_43 := Sq [1] C60_0 C60_42
abbrev C60 := C60_43
abbrev C60r : List RV := [.t 2]
theorem C60ok : Okf Tryz.prog 60 Tryz.f60 C60 C60r := ⟨Tryz.func60, by kernel_rfl, by kernel_rfl, by kernel_rfl⟩

abbrev C61_0 := Ro [As 2 kS]
abbrev C61_1 := Ro [Mv 3 t0,Nq 4 false t3]
abbrev C61_2 := Ro [As 2 kS]
abbrev C61_3 : ACode := .wk 2 .ret
abbrev C61_4 := Sq [2] C61_2 C61_3
abbrev C61_5 := Cd t4 C61_4 .skip
abbrev C61_6 := Sq [0,4] C61_1 C61_5
abbrev C61_7 := Ro [⟨(some 5),none,.e (.bsl 0 [] [])⟩,Mv 6 t0,Ap 7 1 4 t5 t6,As 2 t7]
abbrev C61_8 : ACode := .wk 2 .ret
abbrev C61_9 := Sq [2] C61_7 C61_8
abbrev C61_10 := Sq [0] C61_6 C61_9
abbrev C61_11 := Sq [0] C61_0 C61_10
abbrev C61 := C61_11
abbrev C61r : List RV := [.t 2]
theorem C61ok : Okf Tryz.prog 61 Tryz.f61 C61 C61r := ⟨Tryz.func61, by kernel_rfl, by kernel_rfl, by kernel_rfl⟩

abbrev C62_0 := Ro [As 2 kS]
abbrev C62_1 := Ro [Mv 3 t0,Nq 4 false t3]
abbrev C62_2 := Ro [As 2 kS]
abbrev C62_3 : ACode := .wk 2 .ret
abbrev C62_4 := Sq [2] C62_2 C62_3
abbrev C62_5 := Cd t4 C62_4 .skip
abbrev C62_6 := Sq [0,4] C62_1 C62_5
abbrev C62_7 := Ro [⟨(some 5),none,.e (.bsl 0 [] [])⟩,Mv 6 t0,Ap 7 6 48 t5 t6,As 2 t7]
abbrev C62_8 : ACode := .wk 2 .ret
abbrev C62_9 := Sq [2] C62_7 C62_8
abbrev C62_10 := Sq [0] C62_6 C62_9
abbrev C62_11 := Sq [0] C62_0 C62_10
abbrev C62 := C62_11
abbrev C62r : List RV := [.t 2]
theorem C62ok : Okf Tryz.prog 62 Tryz.f62 C62 C62r := ⟨Tryz.func62, by kernel_rfl, by kernel_rfl, by kernel_rfl⟩

abbrev C63_0 := Ro [As 2 kS]
abbrev C63_1 := Ro [Mv 3 t0,Nq 4 false t3]
abbrev C63_2 := Ro [As 2 kS]
abbrev C63_3 := Sq [2] C63_2 .ret
abbrev C63_4 := Cd t4 C63_3 .skip
abbrev C63_5 := Sq [0,4] C63_1 C63_4
abbrev C63_6 := Ro [⟨(some 5),none,.e (.bsl 0 [] [])⟩,Mv 6 t0,Ap 7 5 56 t5 t6,As 2 t7]
abbrev C63_7 := Sq [2] C63_6 .ret
abbrev C63_8 := Sq [0] C63_5 C63_7
abbrev C63_9 := Sq [0] C63_0 C63_8
abbrev C63 := C63_9
abbrev C63r : List RV := [.t 2]
theorem C63ok : Okf Tryz.prog 63 Tryz.f63 C63 C63r := ⟨Tryz.func63, by kernel_rfl, by kernel_rfl, by kernel_rfl⟩

abbrev C64_0 := Ro [As 2 kS]
abbrev C64_1 := Ro [Mv 3 t0,Nq 4 false t3]
abbrev C64_2 := Ro [As 2 kS]
abbrev C64_3 := Sq [2] C64_2 .ret
abbrev C64_4 := Cd t4 C64_3 .skip
abbrev C64_5 := Sq [0,4] C64_1 C64_4
abbrev C64_6 := Ro [⟨(some 5),none,.e (.bsl 0 [] [])⟩,Mv 6 t0,Ap 7 2 16 t5 t6,As 2 t7]
abbrev C64_7 := Sq [2] C64_6 .ret
abbrev C64_8 := Sq [0] C64_5 C64_7
abbrev C64_9 := Sq [0] C64_0 C64_8
abbrev C64 := C64_9
abbrev C64r : List RV := [.t 2]
theorem C64ok : Okf Tryz.prog 64 Tryz.f64 C64 C64r := ⟨Tryz.func64, by kernel_rfl, by kernel_rfl, by kernel_rfl⟩

abbrev C65_0 := Ro [As 3 (kI 1)]
abbrev C65_1 := Ro [Mv 4 t3,Bn 5 .leq t4 (kI 8)]
abbrev C65_2 := Cd t5 .skip (.exit 0)
abbrev C65_3 := Sq [0,1,3,5] C65_1 C65_2
abbrev C65_4 := Ro [Ld 8 none t1,Mv 9 t3,Bn 10 .and t8 t9,Bn 11 .neq t10 (kI 0),Mv 12 t11,Mvt 13 12 t0,Mvt 14 12 t3,⟨(some 15),(some (12,true)),.e (.callv t13 [t14])⟩,Unt 16 12 .not t15,Pk 17 t12 t16 kF]
abbrev C65_5 := Cd t17 .ret .skip
abbrev C65_6 := Sq [0,1,3,17] C65_4 C65_5
abbrev C65_7 := Bk 1 C65_6
abbrev C65_8 := Ro [Mv 6 t3,Bn 7 .mul t6 (kI 2),As 3 t7]
abbrev C65_9 := Sq [0,1,3] C65_7 C65_8
abbrev C65_10 := Sq [0,1,3] C65_3 C65_9
abbrev C65_11 : ACode := .loop C65_10
abbrev C65_12 := Bk 0 C65_11
abbrev C65_13 := Sq [0,1,3] C65_0 C65_12
abbrev C65 := C65_13
abbrev C65r : List RV := []
theorem C65ok : Okf Tryz.prog 65 Tryz.f65 C65 C65r := ⟨Tryz.func65, by kernel_rfl, by kernel_rfl, by kernel_rfl⟩

abbrev C66_0 := Ro [As 2 kP,As 3 (kI 0)]
abbrev C66_1 := Ro [Mv 11 t0,Ca 12 30 [t11],As 4 t12]
abbrev C66_2 := Ro [Mv 13 t4,Bn 14 .neq t13 (kI 0)]
abbrev C66_3 := Ro [Mv 15 t4,As 2 kP,As 3 t15]
abbrev C66_4 := Sq [2,3] C66_3 .ret
abbrev C66_5 := Cd t14 C66_4 .skip
abbrev C66_6 := Sq [0,4,14] C66_2 C66_5
abbrev C66_7 := Sq [0,4] C66_1 C66_6
abbrev C66_8 := Ro [Mv 16 t0,Ca 17 31 [t16],⟨(some 18),none,.r (.bld [.nilp,.nils] [(0,1,t17)])⟩,⟨(some 19),none,.e (.box t18)⟩,As 5 t19]
abbrev C66_9 := Ro [Mv 20 t5,Nc 21 t20,Fa 22 0 t21,Ld 23 none t22,Nc 24 t23,Fa 25 1 t24,Sxn 1 t25 kS]
abbrev C66_10 := Ro [Mv 26 t0,Nc 27 t26,Fa 28 1 t27,Ld 29 none t28,Ln 30 t29,Mv 31 (kI 0)]
abbrev C66_11 := Ro [Bn 32 .lss t31 t30]
abbrev C66_12 := Cd t32 .skip (.exit 0)
abbrev C66_13 := Ro [Ix 33 6 t29 t31,Ld 34 (some 6) t33,Al 7 [zi,zi,zi,z4,zi,zi],Sxn 6 t7 t34]
abbrev C66_14 := Dr [Mv 35 t5,Mv 36 t5,Nc 37 t36,Fa 38 1 t37,Ld 39 none t38,Mv 40 t5,Ld 41 (some 6) t7,Ca 42 104 [t40,t41],⟨(some 43),none,.e (.bsr 1 [.int .i64 0] [(0,1,t42)])⟩,Ap 44 1 8 t39 t43,Nc 45 t35,Fa 46 1 t45,Sxn 1 t46 t44] [[],[],[1],[2],[3],[],[],[5,6],[7],[4,8,7],[0,0,1,2,3,4,5,6,7,8,9],[10,0,1,2,3,4,5,6,7,8,9],[11,9,9,0,1,2,3,4,5,6,7,8,9]] [(0,[]),(1,[]),(2,[]),(3,[]),(4,[]),(5,[]),(6,[]),(7,[0,1,2,3,4]),(8,[0,1,2,3,4]),(9,[0]),(10,[]),(11,[]),(12,[])]
abbrev C66_15 : ACode := .fz 7 C66_14
abbrev C66_16 := Sq [5,7,29,30,31] C66_13 C66_15
abbrev C66_17 := Bk 1 C66_16
abbrev C66_18 := Ro [Bn 47 .add t31 (kI 1),Mv 31 t47]
abbrev C66_19 := Sq [5,29,30,31] C66_17 C66_18
abbrev C66_20 := Sq [5,29,30,31] C66_12 C66_19
abbrev C66_21 := Sq [5,29,30,31,32] C66_11 C66_20
abbrev C66_22 : ACode := .loop C66_21
abbrev C66_23 := Bk 0 C66_22
abbrev C66_24 := Sq [5,29,30,31] C66_10 C66_23
abbrev C66_25 := Ro [Mv 48 t5,Nc 49 t48,Fa 50 0 t49,Ld 51 none t50,Nc 52 t51,Fa 53 2 t52,Ld 54 none t53,Ln 55 t54,Mv 56 (kI 0)]
abbrev C66_26 := Ro [Bn 57 .lss t56 t55]
abbrev C66_27 := Cd t57 .skip (.exit 2)
abbrev C66_28 := Ro [Mv 58 t56,As 8 t58]
abbrev C66_29 := Ro [Mv 59 t5,Nc 60 t59,Fa 61 0 t60,Ld 62 none t61,Nc 63 t62,Fa 64 2 t63,Ld 65 none t64,Mv 66 t8,Ix 67 5 t65 t66,As 9 t67]
abbrev C66_30 := Ro [Mv 68 t9,Nc 69 t68,Fa 70 2 t69,Ld 71 none t70,Bn 72 .neq t71 (kI (-1))]
abbrev C66_31 := Dr [Mv 73 t9,Mv 74 t5,Nc 75 t74,Fa 76 1 t75,Ld 77 none t76,Mv 78 t9,Nc 79 t78,Fa 80 2 t79,Ld 81 none t80,Ix 82 1 t77 t81,Ld 83 none t82,Nc 84 t73,Fa 85 2 t84,Sxn 1 t85 t83] [[],[],[1],[2],[3],[],[5],[6],[7],[4,8],[9],[0,0,1,2,3,4,5,6,7,8,9,10],[11,0,1,2,3,4,5,6,7,8,9,10],[12,10,0,1,2,3,4,5,6,7,8,9,10]] [(0,[]),(1,[]),(2,[]),(3,[]),(4,[]),(5,[]),(6,[]),(7,[]),(8,[]),(9,[]),(10,[]),(11,[]),(12,[]),(13,[])]
abbrev C66_32 := Cd t72 C66_31 .skip
abbrev C66_33 := Sq [5,9,55,56,72] C66_30 C66_32
abbrev C66_34 := Ro [Mv 86 t9,Nc 87 t86,Fa 88 4 t87,Ld 89 none t88,Ln 90 t89,Mv 91 (kI 0)]
abbrev C66_35 := Ro [Bn 92 .lss t91 t90]
abbrev C66_36 := Cd t92 .skip (.exit 4)
abbrev C66_37 := Ro [Mv 93 t91,As 10 t93]
abbrev C66_38 := Dr [Mv 94 t9,Nc 95 t94,Fa 96 4 t95,Ld 97 none t96,Mv 98 t10,Mv 99 t5,Nc 100 t99,Fa 101 1 t100,Ld 102 none t101,Mv 103 t9,Nc 104 t103,Fa 105 4 t104,Ld 106 none t105,Mv 107 t10,Ix 108 2 t106 t107,Fa 109 1 t108,Ld 110 none t109,Ix 111 1 t102 t110,Ld 112 none t111,Ix 113 2 t97 t98,Fa 114 1 t113,Sxn 1 t114 t112] [[],[0],[1],[2],[],[],[5],[6],[7],[],[9],[10],[11],[],[12,13],[14],[15],[8,16],[17],[3,4,0,1,2,3,4,5,6,7,8,9,10,11,12,13,14,15,16,17,18],[19,0,1,2,3,4,5,6,7,8,9,10,11,12,13,14,15,16,17,18],[20,18,0,1,2,3,4,5,6,7,8,9,10,11,12,13,14,15,16,17,18]] [(0,[]),(1,[]),(2,[]),(3,[]),(4,[]),(5,[]),(6,[]),(7,[]),(8,[]),(9,[]),(10,[]),(11,[]),(12,[]),(13,[]),(14,[]),(15,[]),(16,[]),(17,[]),(18,[]),(19,[]),(20,[]),(21,[])]
abbrev C66_39 := Sq [5,9,10,55,56,90,91] C66_37 C66_38
abbrev C66_40 := Bk 5 C66_39
abbrev C66_41 := Ro [Bn 115 .add t91 (kI 1),Mv 91 t115]
abbrev C66_42 := Sq [5,9,55,56,90,91] C66_40 C66_41
abbrev C66_43 := Sq [5,9,55,56,90,91] C66_36 C66_42
abbrev C66_44 := Sq [5,9,55,56,90,91,92] C66_35 C66_43
abbrev C66_45 : ACode := .loop C66_44
abbrev C66_46 := Bk 4 C66_45
abbrev C66_47 := Sq [5,9,55,56,90,91] C66_34 C66_46
abbrev C66_48 := Sq [5,9,55,56] C66_33 C66_47
abbrev C66_49 := Sq [5,9,55,56] C66_29 C66_48
abbrev C66_50 := Sq [5,8,55,56] C66_28 C66_49
abbrev C66_51 := Bk 3 C66_50
abbrev C66_52 := Ro [Bn 116 .add t56 (kI 1),Mv 56 t116]
abbrev C66_53 := Sq [5,55,56] C66_51 C66_52
abbrev C66_54 := Sq [5,55,56] C66_27 C66_53
abbrev C66_55 := Sq [5,55,56,57] C66_26 C66_54
abbrev C66_56 : ACode := .loop C66_55
abbrev C66_57 := Bk 2 C66_56
abbrev C66_58 := Sq [5,55,56] C66_25 C66_57
abbrev C66_59 := Ro [Mv 117 t5,Nc 118 t117,Fa 119 0 t118,Ld 120 none t119,As 2 t120,As 3 (kI 0)]
abbrev C66_60 := Sq [2,3] C66_59 .ret
abbrev C66_61 := Sq [5] C66_58 C66_60
abbrev C66_62 : ACode := .wk 5 C66_61
abbrev C66_63 := Sq [5] C66_24 C66_62
abbrev C66_64 := Sq [0,5] C66_9 C66_63
abbrev C66_65 := Sq [0,5] C66_8 C66_64
abbrev C66_66 := Sq [0] C66_7 C66_65
abbrev C66_67 := Sq [0] C66_0 C66_66
abbrev C66 := C66_67
abbrev C66r : List RV := [.t 2,.t 3]
theorem C66ok : Okf Tryz.prog 66 Tryz.f66 C66 C66r := ⟨Tryz.func66, by kernel_rfl, by kernel_rfl, by kernel_rfl⟩

abbrev C67_0 := Ro [As 2 kP,As 3 (kI 0)]
abbrev C67_1 := Ro [Mv 11 t0,Ca 12 30 [t11],As 4 t12]
abbrev C67_2 := Ro [Mv 13 t4,Bn 14 .neq t13 (kI 0)]
abbrev C67_3 := Ro [Mv 15 t4,As 2 kP,As 3 t15]
abbrev C67_4 := Sq [2,3] C67_3 .ret
abbrev C67_5 := Cd t14 C67_4 .skip
abbrev C67_6 := Sq [0,4,14] C67_2 C67_5
abbrev C67_7 := Sq [0,4] C67_1 C67_6
abbrev C67_8 := Ro [Mv 16 t0,Ca 17 31 [t16],⟨(some 18),none,.r (.bld [.nilp,.nils,.int .i64 0] [(0,1,t17)])⟩,⟨(some 19),none,.e (.box t18)⟩,As 5 t19]
abbrev C67_9 := Ro [Mv 20 t5,Nc 21 t20,Fa 22 0 t21,Ld 23 none t22,Nc 24 t23,Fa 25 1 t24,Sxn 1 t25 kS]
abbrev C67_10 := Ro [Mv 26 t0,Nc 27 t26,Fa 28 1 t27,Ld 29 none t28,Ln 30 t29,Mv 31 (kI 0)]
abbrev C67_11 := Ro [Bn 32 .lss t31 t30]
abbrev C67_12 := Cd t32 .skip (.exit 0)
abbrev C67_13 := Ro [Ix 33 6 t29 t31,Ld 34 (some 6) t33,Al 7 [zi,zi,zi,z4,zi,zi],Sxn 6 t7 t34]
abbrev C67_14 := Dr [Mv 35 t5,Mv 36 t5,Nc 37 t36,Fa 38 1 t37,Ld 39 none t38,Mv 40 t5,Ld 41 (some 6) t7,Ca 42 105 [t40,t41],⟨(some 43),none,.e (.bsr 1 [.int .i64 0] [(0,1,t42)])⟩,Ap 44 1 8 t39 t43,Nc 45 t35,Fa 46 1 t45,Sxn 1 t46 t44] [[],[],[1],[2],[3],[],[],[5,6],[7],[4,8,7],[0,0,1,2,3,4,5,6,7,8,9],[10,0,1,2,3,4,5,6,7,8,9],[11,9,9,0,1,2,3,4,5,6,7,8,9]] [(0,[]),(1,[]),(2,[]),(3,[]),(4,[]),(5,[]),(6,[]),(7,[0,1,2,3,4]),(8,[0,1,2,3,4]),(9,[0]),(10,[]),(11,[]),(12,[])]
abbrev C67_15 : ACode := .fz 7 C67_14
abbrev C67_16 := Sq [5,7,29,30,31] C67_13 C67_15
abbrev C67_17 := Bk 1 C67_16
abbrev C67_18 := Ro [Bn 47 .add t31 (kI 1),Mv 31 t47]
abbrev C67_19 := Sq [5,29,30,31] C67_17 C67_18
abbrev C67_20 := Sq [5,29,30,31] C67_12 C67_19
abbrev C67_21 := Sq [5,29,30,31,32] C67_11 C67_20
abbrev C67_22 : ACode := .loop C67_21
abbrev C67_23 := Bk 0 C67_22
abbrev C67_24 := Sq [5,29,30,31] C67_10 C67_23
abbrev C67_25 := Ro [Mv 48 t5,Nc 49 t48,Fa 50 0 t49,Ld 51 none t50,Nc 52 t51,Fa 53 2 t52,Ld 54 none t53,Ln 55 t54,Mv 56 (kI 0)]
abbrev C67_26 := Ro [Bn 57 .lss t56 t55]
abbrev C67_27 := Cd t57 .skip (.exit 2)
abbrev C67_28 := Ro [Mv 58 t56,As 8 t58]
abbrev C67_29 := Ro [Mv 59 t5,Nc 60 t59,Fa 61 0 t60,Ld 62 none t61,Nc 63 t62,Fa 64 2 t63,Ld 65 none t64,Mv 66 t8,Ix 67 5 t65 t66,As 9 t67]
abbrev C67_30 := Ro [Mv 68 t9,Nc 69 t68,Fa 70 2 t69,Ld 71 none t70,Bn 72 .neq t71 (kI (-1))]
abbrev C67_31 := Dr [Mv 73 t9,Mv 74 t5,Nc 75 t74,Fa 76 1 t75,Ld 77 none t76,Mv 78 t9,Nc 79 t78,Fa 80 2 t79,Ld 81 none t80,Ix 82 1 t77 t81,Ld 83 none t82,Nc 84 t73,Fa 85 2 t84,Sxn 1 t85 t83] [[],[],[1],[2],[3],[],[5],[6],[7],[4,8],[9],[0,0,1,2,3,4,5,6,7,8,9,10],[11,0,1,2,3,4,5,6,7,8,9,10],[12,10,0,1,2,3,4,5,6,7,8,9,10]] [(0,[]),(1,[]),(2,[]),(3,[]),(4,[]),(5,[]),(6,[]),(7,[]),(8,[]),(9,[]),(10,[]),(11,[]),(12,[]),(13,[])]
abbrev C67_32 := Cd t72 C67_31 .skip
abbrev C67_33 := Sq [5,9,55,56,72] C67_30 C67_32
abbrev C67_34 := Ro [Mv 86 t9,Nc 87 t86,Fa 88 4 t87,Ld 89 none t88,Ln 90 t89,Mv 91 (kI 0)]
abbrev C67_35 := Ro [Bn 92 .lss t91 t90]
abbrev C67_36 := Cd t92 .skip (.exit 4)
abbrev C67_37 := Ro [Mv 93 t91,As 10 t93]
abbrev C67_38 := Dr [Mv 94 t9,Nc 95 t94,Fa 96 4 t95,Ld 97 none t96,Mv 98 t10,Mv 99 t5,Nc 100 t99,Fa 101 1 t100,Ld 102 none t101,Mv 103 t9,Nc 104 t103,Fa 105 4 t104,Ld 106 none t105,Mv 107 t10,Ix 108 2 t106 t107,Fa 109 1 t108,Ld 110 none t109,Ix 111 1 t102 t110,Ld 112 none t111,Ix 113 2 t97 t98,Fa 114 1 t113,Sxn 1 t114 t112] [[],[0],[1],[2],[],[],[5],[6],[7],[],[9],[10],[11],[],[12,13],[14],[15],[8,16],[17],[3,4,0,1,2,3,4,5,6,7,8,9,10,11,12,13,14,15,16,17,18],[19,0,1,2,3,4,5,6,7,8,9,10,11,12,13,14,15,16,17,18],[20,18,0,1,2,3,4,5,6,7,8,9,10,11,12,13,14,15,16,17,18]] [(0,[]),(1,[]),(2,[]),(3,[]),(4,[]),(5,[]),(6,[]),(7,[]),(8,[]),(9,[]),(10,[]),(11,[]),(12,[]),(13,[]),(14,[]),(15,[]),(16,[]),(17,[]),(18,[]),(19,[]),(20,[]),(21,[])]
abbrev C67_39 := Sq [5,9,10,55,56,90,91] C67_37 C67_38
abbrev C67_40 := Bk 5 C67_39
abbrev C67_41 := Ro [Bn 115 .add t91 (kI 1),Mv 91 t115]
abbrev C67_42 := Sq [5,9,55,56,90,91] C67_40 C67_41
abbrev C67_43 := Sq [5,9,55,56,90,91] C67_36 C67_42
abbrev C67_44 := Sq [5,9,55,56,90,91,92] C67_35 C67_43
abbrev C67_45 : ACode := .loop C67_44
abbrev C67_46 := Bk 4 C67_45
abbrev C67_47 := Sq [5,9,55,56,90,91] C67_34 C67_46
abbrev C67_48 := Sq [5,9,55,56] C67_33 C67_47
abbrev C67_49 := Sq [5,9,55,56] C67_29 C67_48
abbrev C67_50 := Sq [5,8,55,56] C67_28 C67_49
abbrev C67_51 := Bk 3 C67_50
abbrev C67_52 := Ro [Bn 116 .add t56 (kI 1),Mv 56 t116]
abbrev C67_53 := Sq [5,55,56] C67_51 C67_52
abbrev C67_54 := Sq [5,55,56] C67_27 C67_53
abbrev C67_55 := Sq [5,55,56,57] C67_26 C67_54
abbrev C67_56 : ACode := .loop C67_55
abbrev C67_57 := Bk 2 C67_56
abbrev C67_58 := Sq [5,55,56] C67_25 C67_57
abbrev C67_59 := Ro [Mv 117 t5,Nc 118 t117,Fa 119 0 t118,Ld 120 none t119,As 2 t120,As 3 (kI 0)]
abbrev C67_60 := Sq [2,3] C67_59 .ret
abbrev C67_61 := Sq [5] C67_58 C67_60
abbrev C67_62 : ACode := .wk 5 C67_61
abbrev C67_63 := Sq [5] C67_24 C67_62
abbrev C67_64 := Sq [0,5] C67_9 C67_63
abbrev C67_65 := Sq [0,5] C67_8 C67_64
abbrev C67_66 := Sq [0] C67_7 C67_65
abbrev C67_67 := Sq [0] C67_0 C67_66
abbrev C67 := C67_67
abbrev C67r : List RV := [.t 2,.t 3]
theorem C67ok : Okf Tryz.prog 67 Tryz.f67 C67 C67r := ⟨Tryz.func67, by kernel_rfl, by kernel_rfl, by kernel_rfl⟩

abbrev C68_0 := Ro [As 2 kP,As 3 (kI 0)]
abbrev C68_1 := Ro [Mv 6 t0,Ca 7 30 [t6],As 4 t7]
abbrev C68_2 := Ro [Mv 8 t4,Bn 9 .neq t8 (kI 0)]
abbrev C68_3 := Ro [Mv 10 t4,As 2 kP,As 3 t10]
abbrev C68_4 := Sq [2,3] C68_3 .ret
abbrev C68_5 := Cd t9 C68_4 .skip
abbrev C68_6 := Sq [0,4,9] C68_2 C68_5
abbrev C68_7 := Sq [0,4] C68_1 C68_6
abbrev C68_8 := Ro [Mv 11 t0,Nc 12 t11,Fa 13 0 t12,Ld 14 none t13,Ca 15 61 [t14],⟨(some 16),none,.r (.bld [.nils,.nils,.nils,zi] [(0,1,t15)])⟩,⟨(some 17),none,.e (.box t16)⟩,⟨(some 18),none,.r (.bld [.nilp,.nils] [(0,1,t17)])⟩,⟨(some 19),none,.e (.box t18)⟩,As 5 t19]
abbrev C68_9 := Ro [Mv 20 t5,Mv 21 t0,Mv 22 t5,Mv 23 t0,Ca 24 107 [t22,t23],Ca 25 106 [t20,t21,t24]]
abbrev C68_10 := Ro [Mv 26 t5,Nc 27 t26,Fa 28 0 t27,Ld 29 none t28,As 2 t29,As 3 (kI 0)]
abbrev C68_11 := Sq [2,3] C68_10 .ret
abbrev C68_12 := Sq [5] C68_9 C68_11
abbrev C68_13 := Sq [0,5] C68_8 C68_12
abbrev C68_14 := Sq [0] C68_7 C68_13
abbrev C68_15 := Sq [0] C68_0 C68_14
abbrev C68 := C68_15
abbrev C68r : List RV := [.t 2,.t 3]
theorem C68ok : Okf Tryz.prog 68 Tryz.f68 C68 C68r := ⟨Tryz.func68, by kernel_rfl, by kernel_rfl, by kernel_rfl⟩

abbrev C69_0 := Ro [As 2 kP,As 3 (kI 0)]
abbrev C69_1 := Ro [Mv 13 t0,Ca 14 30 [t13],As 4 t14]
abbrev C69_2 := Ro [Mv 15 t4,Bn 16 .neq t15 (kI 0)]
abbrev C69_3 := Ro [Mv 17 t4,As 2 kP,As 3 t17]
abbrev C69_4 := Sq [2,3] C69_3 .ret
abbrev C69_5 := Cd t16 C69_4 .skip
abbrev C69_6 := Sq [0,4,16] C69_2 C69_5
abbrev C69_7 := Sq [0,4] C69_1 C69_6
abbrev C69_8 := Ro [Mv 18 t0,Ca 19 108 [t18],Al 5 [.nils,.nils],Sxn 2 t5 t19]
abbrev C69_9 := Dr [Fa 20 0 t5,Ld 21 none t20,Ca 22 109 [t21],Fa 23 1 t5,Ld 24 none t23,Ca 25 109 [t24],As 6 t22,As 7 t25] [[],[0],[1],[],[3],[4,2],[2,5,0,1,2],[5,6,0,1,2,3,4,5,6]] [(0,[]),(1,[]),(3,[]),(4,[]),(2,[3,4]),(5,[]),(6,[]),(7,[])]
abbrev C69_10 := Dr [⟨(some 26),none,.e (.bsl 0 [] [])⟩,Mv 27 t0,Nc 28 t27,Fa 29 0 t28,Ld 30 none t29,Ap 31 1 4 t26 t30,Mv 32 t7,Mv 33 t0,Nc 34 t33,Fa 35 3 t34,Ld 36 none t35,Ix 37 1 t32 t36,Ld 38 none t37,⟨(some 39),none,.r (.bld [.nils,.nils,.nils,zi] [(0,1,t31),(3,1,t38)])⟩,⟨(some 40),none,.e (.box t39)⟩,As 8 t40] [[],[],[1],[2],[3],[0,4],[],[],[7],[8],[9],[6,10],[11],[5,12],[13],[14,5,0,1,2,3,4,5,6,7,8,9,10,11,12,13,14]] [(1,[]),(2,[]),(3,[]),(4,[]),(6,[]),(7,[]),(8,[]),(9,[]),(10,[]),(11,[]),(12,[]),(0,[1,2,3,4,6,7,8,9,10,11,12]),(5,[6,7,8,9,10,11,12]),(13,[]),(14,[]),(15,[])]
abbrev C69_11 := Ro [Mv 41 t0,Nc 42 t41,Fa 43 1 t42,Ld 44 none t43,Ln 45 t44,Mv 46 (kI 0)]
abbrev C69_12 := Ro [Bn 47 .lss t46 t45]
abbrev C69_13 := Cd t47 .skip (.exit 0)
abbrev C69_14 := Ro [Mv 48 t46,Ix 49 6 t44 t46,Ld 50 (some 6) t49,Al 10 [zi,zi,zi,z4,zi,zi],As 9 t48,Sxn 6 t10 t50]
abbrev C69_15 := Ro [Fa 51 0 t5,Ld 52 none t51,Mv 53 t9,Ix 54 1 t52 t53,Ld 55 none t54]
abbrev C69_16 := Dr [Mv 56 t8,Mv 57 t8,Nc 58 t57,Fa 59 1 t58,Ld 60 none t59,Ld 61 (some 6) t10,Mv 62 t6,Mv 63 t7,Ca 64 110 [t61,t62,t63],⟨(some 65),none,.e (.bsr 1 [zi,zi,zi,z4,zi,zi] [(0,6,t64)])⟩,Ap 66 6 48 t60 t65,Nc 67 t56,Fa 68 1 t67,Sxn 1 t68 t66] [[],[],[1],[2],[3],[],[],[],[5,6,7],[8],[4,9,8],[0,0,1,2,3,4,5,6,7,8,9,10],[11,0,1,2,3,4,5,6,7,8,9,10],[12,10,10,0,1,2,3,4,5,6,7,8,9,10]] [(0,[]),(1,[]),(2,[]),(3,[]),(4,[]),(5,[]),(6,[]),(7,[]),(8,[0,1,2,3,4]),(9,[0,1,2,3,4]),(10,[0]),(11,[]),(12,[]),(13,[])]
abbrev C69_17 := Cd t55 C69_16 .skip
abbrev C69_18 := Sq [0,5,6,7,8,10,44,45,46,55] C69_15 C69_17
abbrev C69_19 : ACode := .fz 10 C69_18
abbrev C69_20 := Sq [0,5,6,7,8,9,10,44,45,46] C69_14 C69_19
abbrev C69_21 := Bk 1 C69_20
abbrev C69_22 := Ro [Bn 69 .add t46 (kI 1),Mv 46 t69]
abbrev C69_23 := Sq [0,5,6,7,8,44,45,46] C69_21 C69_22
abbrev C69_24 := Sq [0,5,6,7,8,44,45,46] C69_13 C69_23
abbrev C69_25 := Sq [0,5,6,7,8,44,45,46,47] C69_12 C69_24
abbrev C69_26 : ACode := .loop C69_25
abbrev C69_27 := Bk 0 C69_26
abbrev C69_28 := Sq [0,5,6,7,8,44,45,46] C69_11 C69_27
abbrev C69_29 := Ro [Mv 70 t0,Nc 71 t70,Fa 72 2 t71,Ld 73 none t72,Ln 74 t73,Mv 75 (kI 0)]
abbrev C69_30 := Ro [Bn 76 .lss t75 t74]
abbrev C69_31 := Cd t76 .skip (.exit 2)
abbrev C69_32 := Ro [Mv 77 t75,Ix 78 5 t73 t75,Ld 79 (some 5) t78,Al 12 [zi,z4,zi,zi,.nils],As 11 t77,Sxn 5 t12 t79]
abbrev C69_33 := Ro [Fa 80 1 t5,Ld 81 none t80,Mv 82 t11,Ix 83 1 t81 t82,Ld 84 none t83]
abbrev C69_34 := Dr [Mv 85 t8,Mv 86 t8,Nc 87 t86,Fa 88 2 t87,Ld 89 none t88,Mv 90 t0,Ld 91 (some 5) t12,Mv 92 t6,Ca 93 111 [t90,t91,t92],⟨(some 94),none,.e (.bsr 1 [zi,z4,zi,zi,.nils] [(0,5,t93)])⟩,Ap 95 5 56 t89 t94,Nc 96 t85,Fa 97 2 t96,Sxn 1 t97 t95] [[],[],[1],[2],[3],[],[],[],[5,6,7],[8],[4,9,8],[0,0,1,2,3,4,5,6,7,8,9,10],[11,0,1,2,3,4,5,6,7,8,9,10],[12,10,10,0,1,2,3,4,5,6,7,8,9,10]] [(0,[]),(1,[]),(2,[]),(3,[]),(4,[]),(5,[]),(6,[]),(7,[]),(8,[0,1,2,3,4]),(9,[0,1,2,3,4]),(10,[0]),(11,[]),(12,[]),(13,[])]
abbrev C69_35 := Cd t84 C69_34 .skip
abbrev C69_36 := Sq [0,5,6,8,12,73,74,75,84] C69_33 C69_35
abbrev C69_37 : ACode := .fz 12 C69_36
abbrev C69_38 := Sq [0,5,6,8,11,12,73,74,75] C69_32 C69_37
abbrev C69_39 := Bk 3 C69_38
abbrev C69_40 := Ro [Bn 98 .add t75 (kI 1),Mv 75 t98]
abbrev C69_41 := Sq [0,5,6,8,73,74,75] C69_39 C69_40
abbrev C69_42 := Sq [0,5,6,8,73,74,75] C69_31 C69_41
abbrev C69_43 := Sq [0,5,6,8,73,74,75,76] C69_30 C69_42
abbrev C69_44 : ACode := .loop C69_43
abbrev C69_45 := Bk 2 C69_44
abbrev C69_46 := Sq [0,5,6,8,73,74,75] C69_29 C69_45
abbrev C69_47 := Ro [Mv 99 t8,As 2 t99,As 3 (kI 0)]
abbrev C69_48 := Sq [2,3] C69_47 .ret
abbrev C69_49 : ACode := .wk 8 C69_48
abbrev C69_50 := Sq [8] C69_46 C69_49
abbrev C69_51 : ACode := .wk 8 C69_50
abbrev C69_52 := Sq [0,5,6,8] C69_28 C69_51
abbrev C69_53 := Sq [0,5,6,7,8] C69_10 C69_52
abbrev C69_54 := Sq [0,5,6,7] C69_9 C69_53
abbrev C69_55 : ACode := .fz 5 C69_54
abbrev C69_56 := Sq [0,5] C69_8 C69_55
abbrev C69_57 := Sq [0] C69_7 C69_56
abbrev C69_58 := Sq [0] C69_0 C69_57
abbrev C69 := C69_58
abbrev C69r : List RV := [.t 2,.t 3]
theorem C69ok : Okf Tryz.prog 69 Tryz.f69 C69 C69r := ⟨Tryz.func69, by kernel_rfl, by kernel_rfl, by kernel_rfl⟩

abbrev C70_0 := Ro [Br 2 t0,Br 3 t1,As 4 kF]
abbrev C70_1 := Ro [Fa 5 0 t2,Ld 6 none t5,Fa 7 0 t3,Ld 8 none t7,Bn 9 .eql t6 t8,Mv 10 t9,Fat 11 10 1 t2,Ldt 12 10 none t11,Fat 13 10 1 t3,Ldt 14 10 none t13,Bnt 15 10 .eql t12 t14,Pk 16 t10 t15 kF,Mv 17 t16,Fat 18 17 2 t2,Ldt 19 17 none t18,Fat 20 17 2 t3,Ldt 21 17 none t20,Bnt 22 17 .eql t19 t21,Pk 23 t17 t22 kF,Mv 24 t23,Fat 25 24 3 t2,Ldt 26 24 none t25,Fat 27 24 3 t3,Ldt 28 24 none t27,Bnt 29 24 .eql t26 t28,Pk 30 t24 t29 kF,Mv 31 t30,Fat 32 31 4 t2,Ldt 33 31 none t32,Fat 34 31 4 t3,Ldt 35 31 none t34,Cat 36 31 71 [t33,t35],Pk 37 t31 t36 kF,As 4 t37]
abbrev C70_2 := Sq [4] C70_1 .ret
abbrev C70_3 := Sq [2,3] C70_0 C70_2
abbrev C70 := C70_3
abbrev C70r : List RV := [.t 4]
theorem C70ok : Okf Tryz.prog 70 Tryz.f70 C70 C70r := ⟨Tryz.func70, by kernel_rfl, by kernel_rfl, by kernel_rfl⟩

abbrev C71_0 := Ro [As 4 kF]
abbrev C71_1 := Ro [Mv 6 t0,Ln 7 t6,Mv 8 t1,Ln 9 t8,Bn 10 .neq t7 t9]
abbrev C71_2 := Ro [As 4 kF]
abbrev C71_3 := Sq [4] C71_2 .ret
abbrev C71_4 := Cd t10 C71_3 .skip
abbrev C71_5 := Sq [0,1,10] C71_1 C71_4
abbrev C71_6 := Ro [Mv 11 t0,Ln 12 t11,Mv 13 (kI 0)]
abbrev C71_7 := Ro [Bn 14 .lss t13 t12]
abbrev C71_8 := Cd t14 .skip (.exit 0)
abbrev C71_9 := Ro [Mv 15 t13,As 5 t15]
abbrev C71_10 := Dr [Mv 16 t0,Mv 17 t5,Ix 18 2 t16 t17,Ld 19 (some 2) t18,Mv 20 t1,Mv 21 t5,Ix 22 2 t20 t21,Ld 23 (some 2) t22,⟨(some 24),none,.r (.eqa true [.i,.i] t19 t23)⟩] [[],[],[0,1],[2],[],[],[4,5],[6],[3,7]] [(0,[]),(1,[]),(2,[]),(3,[]),(4,[]),(5,[]),(6,[]),(7,[]),(8,[])]
abbrev C71_11 := Ro [As 4 kF]
abbrev C71_12 := Sq [4] C71_11 .ret
abbrev C71_13 := Cd t24 C71_12 .skip
abbrev C71_14 := Sq [0,1,12,13,24] C71_10 C71_13
abbrev C71_15 := Sq [0,1,5,12,13] C71_9 C71_14
abbrev C71_16 := Bk 1 C71_15
abbrev C71_17 := Ro [Bn 25 .add t13 (kI 1),Mv 13 t25]
abbrev C71_18 := Sq [0,1,12,13] C71_16 C71_17
abbrev C71_19 := Sq [0,1,12,13] C71_8 C71_18
abbrev C71_20 := Sq [0,1,12,13,14] C71_7 C71_19
abbrev C71_21 : ACode := .loop C71_20
abbrev C71_22 := Bk 0 C71_21
abbrev C71_23 := Sq [0,1,12,13] C71_6 C71_22
abbrev C71_24 := Ro [As 4 kT]
abbrev C71_25 := Sq [4] C71_24 .ret
abbrev C71_26 := Sq [] C71_23 C71_25
abbrev C71_27 := Sq [0,1] C71_5 C71_26
abbrev C71_28 := Sq [0,1] C71_0 C71_27
abbrev C71 := C71_28
abbrev C71r : List RV := [.t 4]
theorem C71ok : Okf Tryz.prog 71 Tryz.f71 C71 C71r := ⟨Tryz.func71, by kernel_rfl, by kernel_rfl, by kernel_rfl⟩

abbrev C72_0 := Ro [As 4 kF]
abbrev C72_1 := Ro [Mv 6 t0,Ln 7 t6,Mv 8 t1,Ln 9 t8,Bn 10 .neq t7 t9]
abbrev C72_2 := Ro [As 4 kF]
abbrev C72_3 := Sq [4] C72_2 .ret
abbrev C72_4 := Cd t10 C72_3 .skip
abbrev C72_5 := Sq [0,1,10] C72_1 C72_4
abbrev C72_6 := Ro [Mv 11 t0,Ln 12 t11,Mv 13 (kI 0)]
abbrev C72_7 := Ro [Bn 14 .lss t13 t12]
abbrev C72_8 := Cd t14 .skip (.exit 0)
abbrev C72_9 := Ro [Mv 15 t13,As 5 t15]
abbrev C72_10 := Dr [Mv 16 t0,Mv 17 t5,Ix 18 1 t16 t17,Ld 19 none t18,Mv 20 t1,Mv 21 t5,Ix 22 1 t20 t21,Ld 23 none t22,Bn 24 .neq t19 t23] [[],[],[0,1],[2],[],[],[4,5],[6],[3,7]] [(0,[]),(1,[]),(2,[]),(3,[]),(4,[]),(5,[]),(6,[]),(7,[]),(8,[])]
abbrev C72_11 := Ro [As 4 kF]
abbrev C72_12 := Sq [4] C72_11 .ret
abbrev C72_13 := Cd t24 C72_12 .skip
abbrev C72_14 := Sq [0,1,12,13,24] C72_10 C72_13
abbrev C72_15 := Sq [0,1,5,12,13] C72_9 C72_14
abbrev C72_16 := Bk 1 C72_15
abbrev C72_17 := Ro [Bn 25 .add t13 (kI 1),Mv 13 t25]
abbrev C72_18 := Sq [0,1,12,13] C72_16 C72_17
abbrev C72_19 := Sq [0,1,12,13] C72_8 C72_18
abbrev C72_20 := Sq [0,1,12,13,14] C72_7 C72_19
abbrev C72_21 : ACode := .loop C72_20
abbrev C72_22 := Bk 0 C72_21
abbrev C72_23 := Sq [0,1,12,13] C72_6 C72_22
abbrev C72_24 := Ro [As 4 kT]
abbrev C72_25 := Sq [4] C72_24 .ret
abbrev C72_26 := Sq [] C72_23 C72_25
abbrev C72_27 := Sq [0,1] C72_5 C72_26
abbrev C72_28 := Sq [0,1] C72_0 C72_27
abbrev C72 := C72_28
abbrev C72r : List RV := [.t 4]
theorem C72ok : Okf Tryz.prog 72 Tryz.f72 C72 C72r := ⟨Tryz.func72, by kernel_rfl, by kernel_rfl, by kernel_rfl⟩

abbrev C73_0 := Ro [As 4 kF]
abbrev C73_1 := Ro [Mv 6 t0,Ln 7 t6,Mv 8 t1,Ln 9 t8,Bn 10 .neq t7 t9]
abbrev C73_2 := Ro [As 4 kF]
abbrev C73_3 := Sq [4] C73_2 .ret
abbrev C73_4 := Cd t10 C73_3 .skip
abbrev C73_5 := Sq [0,1,10] C73_1 C73_4
abbrev C73_6 := Ro [Mv 11 t0,Ln 12 t11,Mv 13 (kI 0)]
abbrev C73_7 := Ro [Bn 14 .lss t13 t12]
abbrev C73_8 := Cd t14 .skip (.exit 0)
abbrev C73_9 := Ro [Mv 15 t13,As 5 t15]
abbrev C73_10 := Dr [Mv 16 t0,Mv 17 t5,Ix 18 6 t16 t17,Ld 19 (some 6) t18,Mv 20 t1,Mv 21 t5,Ix 22 6 t20 t21,Ld 23 (some 6) t22,⟨(some 24),none,.r (.eqa true [.i,.i,.i,.i,.i,.i] t19 t23)⟩] [[],[],[0,1],[2],[],[],[4,5],[6],[3,7]] [(0,[]),(1,[]),(2,[]),(3,[]),(4,[]),(5,[]),(6,[]),(7,[]),(8,[])]
abbrev C73_11 := Ro [As 4 kF]
abbrev C73_12 := Sq [4] C73_11 .ret
abbrev C73_13 := Cd t24 C73_12 .skip
abbrev C73_14 := Sq [0,1,12,13,24] C73_10 C73_13
abbrev C73_15 := Sq [0,1,5,12,13] C73_9 C73_14
abbrev C73_16 := Bk 1 C73_15
abbrev C73_17 := Ro [Bn 25 .add t13 (kI 1),Mv 13 t25]
abbrev C73_18 := Sq [0,1,12,13] C73_16 C73_17
abbrev C73_19 := Sq [0,1,12,13] C73_8 C73_18
abbrev C73_20 := Sq [0,1,12,13,14] C73_7 C73_19
abbrev C73_21 : ACode := .loop C73_20
abbrev C73_22 := Bk 0 C73_21
abbrev C73_23 := Sq [0,1,12,13] C73_6 C73_22
abbrev C73_24 := Ro [As 4 kT]
abbrev C73_25 := Sq [4] C73_24 .ret
abbrev C73_26 := Sq [] C73_23 C73_25
abbrev C73_27 := Sq [0,1] C73_5 C73_26
abbrev C73_28 := Sq [0,1] C73_0 C73_27
abbrev C73 := C73_28
abbrev C73r : List RV := [.t 4]
theorem C73ok : Okf Tryz.prog 73 Tryz.f73 C73 C73r := ⟨Tryz.func73, by kernel_rfl, by kernel_rfl, by kernel_rfl⟩

abbrev C74_0 := Ro [As 6 kF]
abbrev C74_1 := Ro [Mv 10 t0,Ln 11 t10,Mv 12 t1,Ln 13 t12,Bn 14 .neq t11 t13]
abbrev C74_2 := Ro [As 6 kF]
abbrev C74_3 := Sq [6] C74_2 .ret
abbrev C74_4 := Cd t14 C74_3 .skip
abbrev C74_5 := Sq [0,1,2,14] C74_1 C74_4
abbrev C74_6 := Ro [Mv 15 t0,Ln 16 t15,Mv 17 (kI 0)]
abbrev C74_7 := Ro [Bn 18 .lss t17 t16]
abbrev C74_8 := Cd t18 .skip (.exit 0)
abbrev C74_9 := Ro [Mv 19 t17,Ix 20 5 t15 t17,Ld 21 (some 5) t20,Al 8 [zi,z4,zi,zi,.nils],As 7 t19,Sxn 5 t8 t21]
abbrev C74_10 := Ro [Mv 22 t1,Mv 23 t7,Ix 24 5 t22 t23,Ld 25 (some 5) t24,Al 9 [zi,z4,zi,zi,.nils],Sxn 5 t9 t25]
abbrev C74_11 := Ro [Mv 26 t2,Ld 27 (some 5) t8,Ld 28 (some 5) t9,⟨(some 29),none,.e (.callv t26 [t27,t28])⟩,Un 30 .not t29]
abbrev C74_12 := Ro [As 6 kF]
abbrev C74_13 := Sq [6] C74_12 .ret
abbrev C74_14 := Cd t30 C74_13 .skip
abbrev C74_15 := Sq [1,2,15,16,17,30] C74_11 C74_14
abbrev C74_16 : ACode := .fz 9 C74_15
abbrev C74_17 := Sq [1,2,8,9,15,16,17] C74_10 C74_16
abbrev C74_18 : ACode := .fz 8 C74_17
abbrev C74_19 := Sq [1,2,7,8,15,16,17] C74_9 C74_18
abbrev C74_20 := Bk 1 C74_19
abbrev C74_21 := Ro [Bn 31 .add t17 (kI 1),Mv 17 t31]
abbrev C74_22 := Sq [1,2,15,16,17] C74_20 C74_21
abbrev C74_23 := Sq [1,2,15,16,17] C74_8 C74_22
abbrev C74_24 := Sq [1,2,15,16,17,18] C74_7 C74_23
abbrev C74_25 : ACode := .loop C74_24
abbrev C74_26 := Bk 0 C74_25
abbrev C74_27 := Sq [1,2,15,16,17] C74_6 C74_26
abbrev C74_28 := Ro [As 6 kT]
abbrev C74_29 := Sq [6] C74_28 .ret
abbrev C74_30 := Sq [] C74_27 C74_29
abbrev C74_31 := Sq [0,1,2] C74_5 C74_30
abbrev C74_32 := Sq [0,1,2] C74_0 C74_31
abbrev C74 := C74_32
abbrev C74r : List RV := [.t 6]
theorem C74ok : Okf Tryz.prog 74 Tryz.f74 C74 C74r := ⟨Tryz.func74, by kernel_rfl, by kernel_rfl, by kernel_rfl⟩

abbrev C75_0 := Ro [As 2 kF]
abbrev C75_1 := Ro [Mv 3 t0,Ca 4 112 [t3],Mv 5 t4,Mvf 6 5 t0,Caf 7 5 87 [t6],Pk 8 t5 kT t7,As 2 t8]
abbrev C75_2 := Sq [2] C75_1 .ret
abbrev C75_3 := Sq [0] C75_0 C75_2
abbrev C75 := C75_3
abbrev C75r : List RV := [.t 2]
theorem C75ok : Okf Tryz.prog 75 Tryz.f75 C75 C75r := ⟨Tryz.func75, by kernel_rfl, by kernel_rfl, by kernel_rfl⟩

abbrev C76_0 := Ro [Br 3 t0,As 6 kF]
abbrev C76_1 := Ro [Mv 7 t1,Bn 8 .geq t7 (kI 0),Mv 9 t8,Mvt 10 9 t1,Mvt 11 9 t2,Bnt 12 9 .lss t10 t11,Pk 13 t9 t12 kF,Mv 14 t13,Mvt 15 14 t1,Fat 16 14 1 t3,Ldt 17 14 none t16,Lnt 18 14 t17,Bnt 19 14 .lss t15 t18,Pk 20 t14 t19 kF,Mv 21 t20,Fat 22 21 1 t3,Ldt 23 21 none t22,Mvt 24 21 t1,Ixt 25 21 6 t23 t24,Fat 26 21 0 t25,Ldt 27 21 none t26,Bnt 28 21 .geq t27 (kI 1),Pk 29 t21 t28 kF,Mv 30 t29,Fat 31 30 1 t3,Ldt 32 30 none t31,Mvt 33 30 t1,Ixt 34 30 6 t32 t33,Fat 35 30 0 t34,Ldt 36 30 none t35,Bnt 37 30 .leq t36 (kI 4),Pk 38 t30 t37 kF,As 6 t38]
abbrev C76_2 := Sq [6] C76_1 .ret
abbrev C76_3 := Sq [1,2,3] C76_0 C76_2
abbrev C76 := C76_3
abbrev C76r : List RV := [.t 6]
theorem C76ok : Okf Tryz.prog 76 Tryz.f76 C76 C76r := ⟨Tryz.func76, by kernel_rfl, by kernel_rfl, by kernel_rfl⟩

abbrev C87_0 := Ro [As 2 kF]
abbrev C87_1 := Ro [Mv 3 t0,Bn 4 .geq t3 (kI 50),Mv 5 t4,Mvt 6 5 t0,Bnt 7 5 .leq t6 (kI 57),Pk 8 t5 t7 kF,As 2 t8]
abbrev C87_2 := Sq [2] C87_1 .ret
abbrev C87_3 := Sq [0] C87_0 C87_2
abbrev C87 := C87_3
abbrev C87r : List RV := [.t 2]
theorem C87ok : Okf Tryz.prog 87 Tryz.f87 C87 C87r := ⟨Tryz.func87, by kernel_rfl, by kernel_rfl, by kernel_rfl⟩

abbrev C88_0 := Ro [As 6 (kU 0)]
abbrev C88_1 := Ro [Mv 9 t1,Ca 10 95 [t9],As 7 t10]
abbrev C88_2 := Ro [Mv 11 t2,Ca 12 95 [t11],As 8 t12]
abbrev C88_3 := Ro [Mv 13 t0]
abbrev C88_4 := Ro [Bn 15 .eql t13 (kI 50),As 14 t15]
abbrev C88_5 := Ro [Mv 16 t1,Cv 17 .u64 t16,Mv 18 t2,Cv 19 .u64 t18,Bn 20 .mul t17 t19,Bn 21 .rem t20 (kL 4294967296),Cv 22 .u32 t21,As 6 t22]
abbrev C88_6 := Sq [6] C88_5 .ret
abbrev C88_7 := Ro [Bn 24 .eql t13 (kI 51),As 23 t24]
abbrev C88_8 := Ro [Mv 25 t7,Mv 26 t8,Bn 27 .mul t25 t26,Ca 28 120 [t27],As 6 t28]
abbrev C88_9 := Sq [6] C88_8 .ret
abbrev C88_10 := Ro [Bn 30 .eql t13 (kI 52),As 29 t30]
abbrev C88_11 := Ro [Mv 31 t7,Mv 32 t2,Cv 33 .i64 t32,Bn 34 .mul t31 t33,Ca 35 120 [t34],As 6 t35]
abbrev C88_12 := Sq [6] C88_11 .ret
abbrev C88_13 := Ro [Bn 37 .eql t13 (kI 53),As 36 t37]
abbrev C88_14 := Ro [Mv 38 t1,Cv 39 .u64 t38,Mv 40 t2,Cv 41 .u64 t40,Bn 42 .mul t39 t41,Bn 43 .quo t42 (kL 4294967296),Cv 44 .u32 t43,As 6 t44]
abbrev C88_15 := Sq [6] C88_14 .ret
abbrev C88_16 := Cd t36 C88_15 .skip
abbrev C88_17 := Sq [0,1,2,7,8,36] C88_13 C88_16
abbrev C88_18 := Cd t29 C88_12 C88_17
abbrev C88_19 := Sq [0,1,2,7,8,13,29] C88_10 C88_18
abbrev C88_20 := Cd t23 C88_9 C88_19
abbrev C88_21 := Sq [0,1,2,7,8,13,23] C88_7 C88_20
abbrev C88_22 := Cd t14 C88_6 C88_21
abbrev C88_23 := Sq [0,1,2,7,8,13,14] C88_4 C88_22
abbrev C88_24 := Bk 0 C88_23
abbrev C88_25 := Sq [0,1,2,7,8,13] C88_3 C88_24
abbrev C88_26 := Ro [Mv 45 t2,Bn 46 .eql t45 (kU 0)]
abbrev C88_27 := Ro [Mv 47 t0,Bn 48 .eql t47 (kI 54),Mv 49 t48,Mvf 50 49 t0,Bnf 51 49 .eql t50 (kI 55),Pk 52 t49 kT t51]
abbrev C88_28 := Ro [As 6 (kU 4294967295)]
abbrev C88_29 := Sq [6] C88_28 .ret
abbrev C88_30 := Cd t52 C88_29 .skip
abbrev C88_31 := Sq [1,52] C88_27 C88_30
abbrev C88_32 := Ro [Mv 53 t1,As 6 t53]
abbrev C88_33 := Sq [6] C88_32 .ret
abbrev C88_34 := Sq [1] C88_31 C88_33
abbrev C88_35 := Cd t46 C88_34 .skip
abbrev C88_36 := Sq [0,1,2,7,8,46] C88_26 C88_35
abbrev C88_37 := Ro [Mv 54 t0]
abbrev C88_38 := Ro [Bn 56 .eql t54 (kI 54),As 55 t56]
abbrev C88_39 := Ro [Mv 57 t7,Mv 58 t8,Bn 59 .quo t57 t58,Ca 60 121 [t59],As 6 t60]
abbrev C88_40 := Sq [6] C88_39 .ret
abbrev C88_41 := Ro [Bn 62 .eql t54 (kI 56),As 61 t62]
abbrev C88_42 := Ro [Mv 63 t7,Mv 64 t8,Bn 65 .rem t63 t64,Ca 66 121 [t65],As 6 t66]
abbrev C88_43 := Sq [6] C88_42 .ret
abbrev C88_44 := Ro [Bn 68 .eql t54 (kI 55),As 67 t68]
abbrev C88_45 := Ro [Mv 69 t1,Mv 70 t2,Bn 71 .quo t69 t70,As 6 t71]
abbrev C88_46 := Sq [6] C88_45 .ret
abbrev C88_47 := Cd t67 C88_46 .skip
abbrev C88_48 := Sq [1,2,67] C88_44 C88_47
abbrev C88_49 := Cd t61 C88_43 C88_48
abbrev C88_50 := Sq [1,2,7,8,54,61] C88_41 C88_49
abbrev C88_51 := Cd t55 C88_40 C88_50
abbrev C88_52 := Sq [1,2,7,8,54,55] C88_38 C88_51
abbrev C88_53 := Bk 1 C88_52
abbrev C88_54 := Sq [1,2,7,8,54] C88_37 C88_53
abbrev C88_55 := Ro [Mv 72 t1,Mv 73 t2,Bn 74 .rem t72 t73,As 6 t74]
abbrev C88_56 := Sq [6] C88_55 .ret
abbrev C88_57 := Sq [1,2] C88_54 C88_56
abbrev C88_58 := Sq [0,1,2,7,8] C88_36 C88_57
abbrev C88_59 := Sq [0,1,2,7,8] C88_25 C88_58
abbrev C88_60 := Sq [0,1,2,7,8] C88_2 C88_59
abbrev C88_61 := Sq [0,1,2,7] C88_1 C88_60
abbrev C88_62 := Sq [0,1,2] C88_0 C88_61
abbrev C88 := C88_62
abbrev C88r : List RV := [.t 6]
theorem C88ok : Okf Tryz.prog 88 Tryz.f88 C88 C88r := ⟨Tryz.func88, by kernel_rfl, by kernel_rfl, by kernel_rfl⟩

abbrev C89_0 := Ro [As 6 (kU 0)]
abbrev C89_1 := Ro [Mv 10 t2,Bn 11 .rem t10 (kU 32),Cv 12 .i64 t11,As 7 t12]
abbrev C89_2 := Ro [Mv 13 t1,Ca 14 95 [t13],As 8 t14]
abbrev C89_3 := Ro [Mv 15 t2,Ca 16 95 [t15],As 9 t16]
abbrev C89_4 := Ro [Mv 17 t0,Ca 18 115 [t17]]
abbrev C89_5 := Ro [Bn 20 .eql t18 (kI 28),As 19 t20]
abbrev C89_6 := Ro [Mv 21 t8,Mv 22 t9,Bn 23 .add t21 t22,Ca 24 121 [t23],As 6 t24]
abbrev C89_7 := Sq [6] C89_6 .ret
abbrev C89_8 := Ro [Bn 26 .eql t18 (kI 29),As 25 t26]
abbrev C89_9 := Ro [Mv 27 t8,Mv 28 t9,Bn 29 .sub t27 t28,Ca 30 121 [t29],As 6 t30]
abbrev C89_10 := Sq [6] C89_9 .ret
abbrev C89_11 := Ro [Bn 32 .eql t18 (kI 31),As 31 t32]
abbrev C89_12 := Ro [Mv 33 t8,Mv 34 t9,Bn 35 .lss t33 t34,Ca 36 122 [t35],As 6 t36]
abbrev C89_13 := Sq [6] C89_12 .ret
abbrev C89_14 := Ro [Bn 38 .eql t18 (kI 32),As 37 t38]
abbrev C89_15 := Ro [Mv 39 t1,Mv 40 t2,Bn 41 .lss t39 t40,Ca 42 122 [t41],As 6 t42]
abbrev C89_16 := Sq [6] C89_15 .ret
abbrev C89_17 := Ro [Bn 44 .eql t18 (kI 33),As 43 t44]
abbrev C89_18 := Ro [Mv 45 t1,Mv 46 t2,⟨(some 47),none,.e (.bsr 3 [.int .u64 0,.int .u64 0,.int .u64 0] [(0,1,(kL 0)),(1,1,(kL 1)),(2,1,(kL 0))])⟩,Ca 48 123 [t45,t46,t47],As 6 t48]
abbrev C89_19 := Sq [6] C89_18 .ret
abbrev C89_20 := Ro [Bn 50 .eql t18 (kI 36),As 49 t50]
abbrev C89_21 := Ro [Mv 51 t1,Mv 52 t2,⟨(some 53),none,.e (.bsr 3 [.int .u64 0,.int .u64 0,.int .u64 0] [(0,1,(kL 0)),(1,1,(kL 1)),(2,1,(kL 1))])⟩,Ca 54 123 [t51,t52,t53],As 6 t54]
abbrev C89_22 := Sq [6] C89_21 .ret
abbrev C89_23 := Ro [Bn 56 .eql t18 (kI 37),As 55 t56]
abbrev C89_24 := Ro [Mv 57 t1,Mv 58 t2,⟨(some 59),none,.e (.bsr 3 [.int .u64 0,.int .u64 0,.int .u64 0] [(0,1,(kL 0)),(1,1,(kL 0)),(2,1,(kL 1))])⟩,Ca 60 123 [t57,t58,t59],As 6 t60]
abbrev C89_25 := Sq [6] C89_24 .ret
abbrev C89_26 := Ro [Bn 62 .eql t18 (kI 30),As 61 t62]
abbrev C89_27 := Ro [Mv 63 t1,Cv 64 .u64 t63,Mv 65 t7,Ca 66 93 [t65],Bn 67 .mul t64 t66,Bn 68 .rem t67 (kL 4294967296),Cv 69 .u32 t68,As 6 t69]
abbrev C89_28 := Sq [6] C89_27 .ret
abbrev C89_29 := Ro [Bn 71 .eql t18 (kI 34),As 70 t71]
abbrev C89_30 := Ro [Mv 72 t1,Cv 73 .u64 t72,Mv 74 t7,Ca 75 93 [t74],Bn 76 .quo t73 t75,Cv 77 .u32 t76,As 6 t77]
abbrev C89_31 := Sq [6] C89_30 .ret
abbrev C89_32 := Cd t70 C89_31 .skip
abbrev C89_33 := Sq [1,7,8,70] C89_29 C89_32
abbrev C89_34 := Cd t61 C89_28 C89_33
abbrev C89_35 := Sq [1,7,8,18,61] C89_26 C89_34
abbrev C89_36 := Cd t55 C89_25 C89_35
abbrev C89_37 := Sq [1,2,7,8,18,55] C89_23 C89_36
abbrev C89_38 := Cd t49 C89_22 C89_37
abbrev C89_39 := Sq [1,2,7,8,18,49] C89_20 C89_38
abbrev C89_40 := Cd t43 C89_19 C89_39
abbrev C89_41 := Sq [1,2,7,8,18,43] C89_17 C89_40
abbrev C89_42 := Cd t37 C89_16 C89_41
abbrev C89_43 := Sq [1,2,7,8,18,37] C89_14 C89_42
abbrev C89_44 := Cd t31 C89_13 C89_43
abbrev C89_45 := Sq [1,2,7,8,9,18,31] C89_11 C89_44
abbrev C89_46 := Cd t25 C89_10 C89_45
abbrev C89_47 := Sq [1,2,7,8,9,18,25] C89_8 C89_46
abbrev C89_48 := Cd t19 C89_7 C89_47
abbrev C89_49 := Sq [1,2,7,8,9,18,19] C89_5 C89_48
abbrev C89_50 := Bk 0 C89_49
abbrev C89_51 := Sq [1,2,7,8,9,18] C89_4 C89_50
abbrev C89_52 := Ro [Mv 78 t8,Mv 79 t7,Ca 80 124 [t78,t79],Ca 81 121 [t80],As 6 t81]
abbrev C89_53 := Sq [6] C89_52 .ret
abbrev C89_54 := Sq [7,8] C89_51 C89_53
abbrev C89_55 := Sq [0,1,2,7,8,9] C89_3 C89_54
abbrev C89_56 := Sq [0,1,2,7,8] C89_2 C89_55
abbrev C89_57 := Sq [0,1,2,7] C89_1 C89_56
abbrev C89_58 := Sq [0,1,2] C89_0 C89_57
abbrev C89 := C89_58
abbrev C89r : List RV := [.t 6]
theorem C89ok : Okf Tryz.prog 89 Tryz.f89 C89 C89r := ⟨Tryz.func89, by kernel_rfl, by kernel_rfl, by kernel_rfl⟩

abbrev C90_0 := Ro [As 2 kF]
abbrev C90_1 := Ro [Mv 3 t0,Bn 4 .eql t3 (kI 1),Mv 5 t4,Mvf 6 5 t0,Bnf 7 5 .eql t6 (kI 2),Pk 8 t5 kT t7,Mv 9 t8,Mvf 10 9 t0,Bnf 11 9 .eql t10 (kI 4),Pk 12 t9 kT t11,As 2 t12]
abbrev C90_2 := Sq [2] C90_1 .ret
abbrev C90_3 := Sq [0] C90_0 C90_2
abbrev C90 := C90_3
abbrev C90r : List RV := [.t 2]
theorem C90ok : Okf Tryz.prog 90 Tryz.f90 C90 C90r := ⟨Tryz.func90, by kernel_rfl, by kernel_rfl, by kernel_rfl⟩

abbrev C91_0 := Ro [As 6 kF]
abbrev C91_1 := Ro [Mv 8 t1,Cv 9 .i64 t8,Bn 10 .sub t9 (kI 2147483648),As 7 t10]
abbrev C91_2 := Ro [Mv 11 t2,Bn 12 .geq t11 (kI 1),Mv 13 t12,Mvt 14 13 t7,Bnt 15 13 .geq t14 (kI 0),Pk 16 t13 t15 kF,Mv 17 t16,Mvt 18 17 t2,Mvt 19 17 t0,Lnt 20 17 t19,Bnt 21 17 .leq t18 t20,Pk 22 t17 t21 kF,Mv 23 t22,Mvt 24 23 t7,Mvt 25 23 t0,Lnt 26 23 t25,Mvt 27 23 t2,Bnt 28 23 .sub t26 t27,Bnt 29 23 .leq t24 t28,Pk 30 t23 t29 kF,As 6 t30]
abbrev C91_3 := Sq [6] C91_2 .ret
abbrev C91_4 := Sq [0,2,7] C91_1 C91_3
abbrev C91_5 := Sq [0,1,2] C91_0 C91_4
abbrev C91 := C91_5
abbrev C91r : List RV := [.t 6]
theorem C91ok : Okf Tryz.prog 91 Tryz.f91 C91 C91r := ⟨Tryz.func91, by kernel_rfl, by kernel_rfl, by kernel_rfl⟩

abbrev C92_0 := Ro [As 2 (kU 0)]
abbrev C92_1 := Ro [As 3 (kL 0)]
abbrev C92_2 := Ro [As 4 (kI 0)]
abbrev C92_3 := Ro [Mv 5 t4,Mv 6 t0,Ln 7 t6,Bn 8 .lss t5 t7]
abbrev C92_4 := Cd t8 .skip (.exit 0)
abbrev C92_5 := Sq [0,3,4,8] C92_3 C92_4
abbrev C92_6 := Dr [Mv 11 t3,Mv 12 t0,Mv 13 t4,Ix 14 1 t12 t13,Ld 15 none t14,Cv 16 .u64 t15,Mv 17 t4,Bn 18 .mul (kI 8) t17,Ca 19 93 [t18],Bn 20 .mul t16 t19,Bn 21 .add t11 t20,As 3 t21] [[],[],[],[1,2],[3],[4],[],[6],[7],[5,8],[0,9],[10,8,0,1,2,3,4,5,6,7,8,9,10]] [(0,[]),(1,[]),(2,[]),(3,[]),(4,[]),(5,[]),(6,[]),(7,[]),(8,[0,1,2,3,4,5]),(9,[]),(10,[]),(11,[])]
abbrev C92_7 := Bk 1 C92_6
abbrev C92_8 := Ro [Mv 9 t4,Bn 10 .add t9 (kI 1),As 4 t10]
abbrev C92_9 := Sq [0,3,4] C92_7 C92_8
abbrev C92_10 := Sq [0,3,4] C92_5 C92_9
abbrev C92_11 : ACode := .loop C92_10
abbrev C92_12 := Bk 0 C92_11
abbrev C92_13 := Sq [0,3,4] C92_2 C92_12
abbrev C92_14 := Ro [Mv 22 t3,Cv 23 .u32 t22,As 2 t23]
abbrev C92_15 := Sq [2] C92_14 .ret
abbrev C92_16 := Sq [3] C92_13 C92_15
abbrev C92_17 := Sq [0,3] C92_1 C92_16
abbrev C92_18 := Sq [0] C92_0 C92_17
abbrev C92 := C92_18
abbrev C92r : List RV := [.t 2]
theorem C92ok : Okf Tryz.prog 92 Tryz.f92 C92 C92r := ⟨Tryz.func92, by kernel_rfl, by kernel_rfl, by kernel_rfl⟩

abbrev C93_0 := Ro [As 2 (kL 0)]
abbrev C93_1 := Ro [As 3 (kL 1)]
abbrev C93_2 := Ro [As 4 (kI 0)]
abbrev C93_3 := Ro [Mv 5 t4,Mv 6 t0,Bn 7 .lss t5 t6]
abbrev C93_4 := Cd t7 .skip (.exit 0)
abbrev C93_5 := Sq [0,3,4,7] C93_3 C93_4
abbrev C93_6 := Ro [Mv 10 t3,Bn 11 .mul t10 (kL 2),As 3 t11]
abbrev C93_7 := Bk 1 C93_6
abbrev C93_8 := Ro [Mv 8 t4,Bn 9 .add t8 (kI 1),As 4 t9]
abbrev C93_9 := Sq [0,3,4] C93_7 C93_8
abbrev C93_10 := Sq [0,3,4] C93_5 C93_9
abbrev C93_11 : ACode := .loop C93_10
abbrev C93_12 := Bk 0 C93_11
abbrev C93_13 := Sq [0,3,4] C93_2 C93_12
abbrev C93_14 := Ro [Mv 12 t3,As 2 t12]
abbrev C93_15 := Sq [2] C93_14 .ret
abbrev C93_16 := Sq [3] C93_13 C93_15
abbrev C93_17 := Sq [0,3] C93_1 C93_16
abbrev C93_18 := Sq [0] C93_0 C93_17
abbrev C93 := C93_18
abbrev C93r : List RV := [.t 2]
theorem C93ok : Okf Tryz.prog 93 Tryz.f93 C93 C93r := ⟨Tryz.func93, by kernel_rfl, by kernel_rfl, by kernel_rfl⟩

abbrev C94_0 := Ro [As 4 kS]
abbrev C94_1 := Ro [⟨(some 7),none,.e (.bsl 0 [] [])⟩,As 5 t7]
abbrev C94_2 := Ro [As 6 (kI 0)]
abbrev C94_3 := Ro [Mv 8 t6,Mv 9 t1,Bn 10 .lss t8 t9]
abbrev C94_4 := Cd t10 .skip (.exit 0)
abbrev C94_5 := Sq [0,1,5,6,10] C94_3 C94_4
abbrev C94_6 := Ro [Mv 13 t5,Mv 14 t0,Cv 15 .u64 t14,Mv 16 t6,Bn 17 .mul (kI 8) t16,Ca 18 93 [t17],Bn 19 .quo t15 t18,Bn 20 .rem t19 (kL 256),Cv 21 .u8 t20,⟨(some 22),none,.e (.bsr 1 [.int .u8 0] [(0,1,t21)])⟩,Ap 23 1 1 t13 t22,As 5 t23]
abbrev C94_7 := Bk 1 C94_6
abbrev C94_8 := Ro [Mv 11 t6,Bn 12 .add t11 (kI 1),As 6 t12]
abbrev C94_9 := Sq [0,1,5,6] C94_7 C94_8
abbrev C94_10 := Sq [0,1,5,6] C94_5 C94_9
abbrev C94_11 : ACode := .loop C94_10
abbrev C94_12 := Bk 0 C94_11
abbrev C94_13 := Sq [0,1,5,6] C94_2 C94_12
abbrev C94_14 := Ro [Mv 24 t5,As 4 t24]
abbrev C94_15 := Sq [4] C94_14 .ret
abbrev C94_16 := Sq [5] C94_13 C94_15
abbrev C94_17 := Sq [0,1,5] C94_1 C94_16
abbrev C94_18 := Sq [0,1] C94_0 C94_17
abbrev C94 := C94_18
abbrev C94r : List RV := [.t 4]
theorem C94ok : Okf Tryz.prog 94 Tryz.f94 C94 C94r := ⟨Tryz.func94, by kernel_rfl, by kernel_rfl, by kernel_rfl⟩

abbrev C95_0 := Ro [As 2 (kI 0)]
abbrev C95_1 := Ro [Mv 3 t0,Bn 4 .geq t3 (kU 2147483648)]
abbrev C95_2 := Ro [Mv 5 t0,Cv 6 .i64 t5,Bn 7 .sub t6 (kI 4294967296),As 2 t7]
abbrev C95_3 := Sq [2] C95_2 .ret
abbrev C95_4 := Cd t4 C95_3 .skip
abbrev C95_5 := Sq [0,4] C95_1 C95_4
abbrev C95_6 := Ro [Mv 8 t0,Cv 9 .i64 t8,As 2 t9]
abbrev C95_7 := Sq [2] C95_6 .ret
abbrev C95_8 := Sq [0] C95_5 C95_7
abbrev C95_9 := Sq [0] C95_0 C95_8
abbrev C95 := C95_9
abbrev C95r : List RV := [.t 2]
theorem C95ok : Okf Tryz.prog 95 Tryz.f95 C95 C95r := ⟨Tryz.func95, by kernel_rfl, by kernel_rfl, by kernel_rfl⟩

abbrev C99_0 := Ro [Br 2 t0,As 4 kF]
abbrev C99_1 := Ro [Fa 8 0 t2,Ld 9 none t8,Nc 10 t9,Fa 11 1 t10,Ld 12 none t11,Mv 13 t1,Ix 14 6 t12 t13,Ld 15 (some 6) t14,Al 5 [zi,zi,zi,z4,zi,zi],Sxn 6 t5 t15]
abbrev C99_2 := Ro [Ld 16 (some 6) t5,Ca 17 125 [t16],Un 18 .not t17,Mv 19 t18,Ldf 20 19 (some 6) t5,Caf 21 19 126 [t20],Unf 22 19 .not t21,Pk 23 t19 kT t22]
abbrev C99_3 := Ro [As 4 kF]
abbrev C99_4 := Sq [4] C99_3 .ret
abbrev C99_5 := Cd t23 C99_4 .skip
abbrev C99_6 := Sq [1,2,5,23] C99_2 C99_5
abbrev C99_7 := Ro [Ld 24 (some 6) t5,Ca 25 127 [t24],Ln 26 t25,Mv 27 (kI 0)]
abbrev C99_8 := Ro [Bn 28 .lss t27 t26]
abbrev C99_9 := Cd t28 .skip (.exit 0)
abbrev C99_10 := Ro [Ix 29 1 t25 t27,Ld 30 none t29,As 7 t30]
abbrev C99_11 := Ro [Ld 31 (some 1) t2,Mv 32 t7,Mv 33 t1,Ca 34 128 [t31,t32,t33],Un 35 .not t34]
abbrev C99_12 := Ro [As 4 kF]
abbrev C99_13 := Sq [4] C99_12 .ret
abbrev C99_14 := Cd t35 C99_13 .skip
abbrev C99_15 := Sq [1,2,5,25,26,27,35] C99_11 C99_14
abbrev C99_16 := Sq [1,2,5,7,25,26,27] C99_10 C99_15
abbrev C99_17 := Bk 1 C99_16
abbrev C99_18 := Ro [Bn 36 .add t27 (kI 1),Mv 27 t36]
abbrev C99_19 := Sq [1,2,5,25,26,27] C99_17 C99_18
abbrev C99_20 := Sq [1,2,5,25,26,27] C99_9 C99_19
abbrev C99_21 := Sq [1,2,5,25,26,27,28] C99_8 C99_20
abbrev C99_22 : ACode := .loop C99_21
abbrev C99_23 := Bk 0 C99_22
abbrev C99_24 := Sq [1,2,5,25,26,27] C99_7 C99_23
abbrev C99_25 := Ro [Fa 37 0 t5,Ld 38 none t37]
abbrev C99_26 := Ro [Bn 40 .eql t38 (kI 5),As 39 t40]
abbrev C99_27 := Ro [Ld 41 (some 1) t2,Fa 42 4 t5,Ld 43 none t42,Mv 44 t1,Ca 45 103 [t41,t43,t44],Mv 46 t45,Ldt 47 46 (some 1) t2,Fat 48 46 5 t5,Ldt 49 46 none t48,Mvt 50 46 t1,Cat 51 46 103 [t47,t49,t50],Pk 52 t46 t51 kF,As 4 t52]
abbrev C99_28 := Sq [4] C99_27 .ret
abbrev C99_29 := Ro [Bn 54 .eql t38 (kI 4),As 53 t54]
abbrev C99_30 := Ro [Bn 55 .eql t38 (kI 6),As 53 t55]
abbrev C99_31 := Cd t53 .skip C99_30
abbrev C99_32 := Sq [1,2,5,38,53] C99_29 C99_31
abbrev C99_33 := Ro [Ld 56 (some 1) t2,Fa 57 4 t5,Ld 58 none t57,Mv 59 t1,Ca 60 103 [t56,t58,t59],As 4 t60]
abbrev C99_34 := Sq [4] C99_33 .ret
abbrev C99_35 := Cd t53 C99_34 .skip
abbrev C99_36 := Sq [1,2,5,53] C99_32 C99_35
abbrev C99_37 := Cd t39 C99_28 C99_36
abbrev C99_38 := Sq [1,2,5,38,39] C99_26 C99_37
abbrev C99_39 := Bk 2 C99_38
abbrev C99_40 := Sq [1,2,5,38] C99_25 C99_39
abbrev C99_41 := Ro [As 4 kT]
abbrev C99_42 := Sq [4] C99_41 .ret
abbrev C99_43 := Sq [] C99_40 C99_42
abbrev C99_44 := Sq [1,2,5] C99_24 C99_43
abbrev C99_45 := Sq [1,2,5] C99_6 C99_44
abbrev C99_46 : ACode := .fz 5 C99_45
abbrev C99_47 := Sq [1,2,5] C99_1 C99_46
abbrev C99_48 := Sq [1,2] C99_0 C99_47
abbrev C99 := C99_48
abbrev C99r : List RV := [.t 4]
theorem C99ok : Okf Tryz.prog 99 Tryz.f99 C99 C99r := ⟨Tryz.func99, by kernel_rfl, by kernel_rfl, by kernel_rfl⟩

abbrev C100_0 := Ro [Br 2 t0,As 4 kF]
abbrev C100_1 := Ro [Fa 9 0 t2,Ld 10 none t9,Nc 11 t10,Fa 12 2 t11,Ld 13 none t12,Mv 14 t1,Ix 15 5 t13 t14,Ld 16 (some 5) t15,Al 5 [zi,z4,zi,zi,.nils],Sxn 5 t5 t16]
abbrev C100_2 := Dr [Ld 17 (some 1) t2,Mv 18 t1,Fa 19 0 t2,Ld 20 none t19,Nc 21 t20,Fa 22 1 t21,Ld 23 none t22,Ln 24 t23,Ca 25 103 [t17,t18,t24],Un 26 .not t25,Mv 27 t26,Faf 28 27 0 t5,Ldf 29 27 none t28,Bnf 30 27 .lss t29 (kI 0),Pk 31 t27 kT t30,Mv 32 t31,Faf 33 32 0 t5,Ldf 34 32 none t33,Faf 35 32 0 t2,Ldf 36 32 none t35,Ncf 37 32 t36,Faf 38 32 0 t37,Ldf 39 32 none t38,Lnf 40 32 t39,Bnf 41 32 .gtr t34 t40,Pk 42 t32 kT t41,Mv 43 t42,Faf 44 43 1 t5,Ldf 45 43 none t44,Bnf 46 43 .rem t45 (kU 4),Bnf 47 43 .neq t46 (kU 0),Pk 48 t43 kT t47,Mv 49 t48,Faf 50 49 3 t5,Ldf 51 49 none t50,Bnf 52 49 .lss t51 (kI 1),Pk 53 t49 kT t52,Mv 54 t53,Faf 55 54 3 t5,Ldf 56 54 none t55,Bnf 57 54 .gtr t56 (kI 4),Pk 58 t54 kT t57] [[],[],[],[2],[3],[4],[5],[6],[0,1,7],[8],[9,8],[10],[11,10],[12,10],[10,13],[14,10],[15],[16,15],[15],[18,15],[19,15],[20,15],[21,15],[22,15],[17,23,15],[15,24],[25,15],[26],[27,26],[28,26],[29,26],[26,30],[31,26],[32],[33,32],[34,32],[32,35],[36,32],[37],[38,37],[39,37],[37,40]] [(0,[]),(1,[]),(2,[]),(3,[]),(4,[]),(5,[]),(6,[]),(7,[]),(8,[]),(9,[]),(10,[]),(11,[]),(12,[]),(13,[]),(14,[]),(15,[]),(16,[]),(17,[]),(18,[]),(19,[]),(20,[]),(21,[]),(22,[]),(23,[]),(24,[]),(25,[]),(26,[]),(27,[]),(28,[]),(29,[]),(30,[]),(31,[]),(32,[]),(33,[]),(34,[]),(35,[]),(36,[]),(37,[]),(38,[]),(39,[]),(40,[]),(41,[])]
abbrev C100_3 := Ro [As 4 kF]
abbrev C100_4 := Sq [4] C100_3 .ret
abbrev C100_5 := Cd t58 C100_4 .skip
abbrev C100_6 := Sq [5,58] C100_2 C100_5
abbrev C100_7 := Ro [As 6 (kI 0)]
abbrev C100_8 := Ro [Fa 59 4 t5,Ld 60 none t59,Ln 61 t60,Mv 62 (kI 0)]
abbrev C100_9 := Ro [Bn 63 .lss t62 t61]
abbrev C100_10 := Cd t63 .skip (.exit 0)
abbrev C100_11 := Ro [Ix 64 2 t60 t62,Ld 65 (some 2) t64,Al 8 [.int .i64 0,.int .i64 0],Sxn 2 t8 t65]
abbrev C100_12 := Ro [Fa 66 0 t8,Ld 67 none t66,Mv 68 t6,Bn 69 .leq t67 t68,Mv 70 t69,Faf 71 70 0 t8,Ldf 72 70 none t71,Bnf 73 70 .gtr t72 (kI 31),Pk 74 t70 kT t73]
abbrev C100_13 := Ro [As 4 kF]
abbrev C100_14 := Sq [4] C100_13 .ret
abbrev C100_15 := Cd t74 C100_14 .skip
abbrev C100_16 := Sq [8,60,61,62,74] C100_12 C100_15
abbrev C100_17 := Ro [Fa 75 0 t8,Ld 76 none t75,As 6 t76]
abbrev C100_18 := Sq [8,60,61,62] C100_16 C100_17
abbrev C100_19 : ACode := .fz 8 C100_18
abbrev C100_20 := Sq [6,8,60,61,62] C100_11 C100_19
abbrev C100_21 := Bk 1 C100_20
abbrev C100_22 := Ro [Bn 77 .add t62 (kI 1),Mv 62 t77]
abbrev C100_23 := Sq [6,60,61,62] C100_21 C100_22
abbrev C100_24 := Sq [6,60,61,62] C100_10 C100_23
abbrev C100_25 := Sq [6,60,61,62,63] C100_9 C100_24
abbrev C100_26 : ACode := .loop C100_25
abbrev C100_27 := Bk 0 C100_26
abbrev C100_28 := Sq [6,60,61,62] C100_8 C100_27
abbrev C100_29 := Ro [As 4 kT]
abbrev C100_30 := Sq [4] C100_29 .ret
abbrev C100_31 := Sq [] C100_28 C100_30
abbrev C100_32 := Sq [5,6] C100_7 C100_31
abbrev C100_33 := Sq [5] C100_6 C100_32
abbrev C100_34 : ACode := .fz 5 C100_33
abbrev C100_35 := Sq [1,2,5] C100_1 C100_34
abbrev C100_36 := Sq [1,2] C100_0 C100_35
abbrev C100 := C100_36
abbrev C100r : List RV := [.t 4]
theorem C100ok : Okf Tryz.prog 100 Tryz.f100 C100 C100r := ⟨Tryz.func100, by kernel_rfl, by kernel_rfl, by kernel_rfl⟩

abbrev C101_0 := Ro [As 2 kF]
abbrev C101_1 := Ro [Mv 3 t0,Bn 4 .rem t3 (kU 4),Bn 5 .neq t4 (kU 0),As 2 t5]
abbrev C101_2 := Sq [2] C101_1 .ret
abbrev C101_3 := Sq [0] C101_0 C101_2
abbrev C101 := C101_3
abbrev C101r : List RV := [.t 2]
theorem C101ok : Okf Tryz.prog 101 Tryz.f101 C101 C101r := ⟨Tryz.func101, by kernel_rfl, by kernel_rfl, by kernel_rfl⟩

abbrev C102_0 := Ro [As 4 kF]
abbrev C102_1 := Ro [Mv 5 t0,Mv 6 t1,Ca 7 129 [t5,t6],Bn 8 .geq t7 (kI 0),As 4 t8]
abbrev C102_2 := Sq [4] C102_1 .ret
abbrev C102_3 := Sq [0,1] C102_0 C102_2
abbrev C102 := C102_3
abbrev C102r : List RV := [.t 4]
theorem C102ok : Okf Tryz.prog 102 Tryz.f102 C102 C102r := ⟨Tryz.func102, by kernel_rfl, by kernel_rfl, by kernel_rfl⟩

abbrev C103_0 := Ro [Br 3 t0,Br 5 t2,As 6 kF]
abbrev C103_1 := Ro [Mv 8 t1,Bn 9 .lss t8 (kI 0),Mv 10 t9,Mvf 11 10 t1,Faf 12 10 0 t3,Ldf 13 10 none t12,Ncf 14 10 t13,Faf 15 10 2 t14,Ldf 16 10 none t15,Lnf 17 10 t16,Bnf 18 10 .geq t11 t17,Pk 19 t10 kT t18]
abbrev C103_2 := Ro [As 6 kF]
abbrev C103_3 := Sq [6] C103_2 .ret
abbrev C103_4 := Cd t19 C103_3 .skip
abbrev C103_5 := Sq [1,3,5,19] C103_1 C103_4
abbrev C103_6 := Ro [Fa 20 0 t3,Ld 21 none t20,Nc 22 t21,Fa 23 2 t22,Ld 24 none t23,Mv 25 t1,Ix 26 5 t24 t25,Ld 27 (some 5) t26,Al 7 [zi,z4,zi,zi,.nils],Sxn 5 t7 t27]
abbrev C103_7 := Ro [Fa 28 2 t7,Ld 29 none t28,Bn 30 .neq t29 (kI (-1)),Mv 31 t30,Ldt 32 31 (some 1) t3,Fat 33 31 2 t7,Ldt 34 31 none t33,Ldt 35 31 none t5,Cat 36 31 128 [t32,t34,t35],Unt 37 31 .not t36,Pk 38 t31 t37 kF]
abbrev C103_8 := Ro [As 6 kF]
abbrev C103_9 := Sq [6] C103_8 .ret
abbrev C103_10 := Cd t38 C103_9 .skip
abbrev C103_11 := Sq [3,5,7,38] C103_7 C103_10
abbrev C103_12 := Ro [Fa 39 4 t7,Ld 40 none t39,⟨(some 41),none,.r (.mkf 131 [] [t3,t5])⟩,Ca 42 130 [t40,t41],Un 43 .not t42,As 6 t43]
abbrev C103_13 := Sq [6] C103_12 .ret
abbrev C103_14 := Sq [3,5,7] C103_11 C103_13
abbrev C103_15 : ACode := .fz 7 C103_14
abbrev C103_16 := Sq [3,5,7] C103_6 C103_15
abbrev C103_17 := Sq [1,3,5] C103_5 C103_16
abbrev C103_18 := Sq [1,3,5] C103_0 C103_17
abbrev C103 := C103_18
abbrev C103r : List RV := [.t 6]
theorem C103ok : Okf Tryz.prog 103 Tryz.f103 C103 C103r := ⟨Tryz.func103, by kernel_rfl, by kernel_rfl, by kernel_rfl⟩

abbrev C104_0 := Ro [⟨(some 3),none,.e (.box t1)⟩,As 4 (kI 0)]
abbrev C104_1 := Ro [Fa 5 0 t3,Ld 6 none t5]
abbrev C104_2 := Ro [Bn 8 .eql t6 (kI 3),As 7 t8]
abbrev C104_3 := Ro [Bn 9 .eql t6 (kI 5),As 7 t9]
abbrev C104_4 := Ro [Bn 10 .eql t6 (kI 6),As 7 t10]
abbrev C104_5 := Cd t7 .skip C104_4
abbrev C104_6 := Sq [0,3,6,7] C104_3 C104_5
abbrev C104_7 := Cd t7 .skip C104_6
abbrev C104_8 := Sq [0,3,6,7] C104_2 C104_7
abbrev C104_9 := Cd t7 (.exit 1) .skip
abbrev C104_10 := Sq [0,3,6,7] C104_8 C104_9
abbrev C104_11 := Ro [Bn 12 .eql t6 (kI 4),As 11 t12]
abbrev C104_12 := Cd t11 (.exit 2) .skip
abbrev C104_13 := Sq [0,3,11] C104_11 C104_12
abbrev C104_14 := Sq [0,3,6] C104_10 C104_13
abbrev C104_15 := Sq [0,3] C104_14 (.exit 0)
abbrev C104_16 := Bk 1 C104_15
abbrev C104_17 := Dr [Mv 13 t0,Nc 14 t13,Fa 15 1 t14,Ld 16 none t15,Fa 17 2 t3,Ld 18 none t17,Ix 19 1 t16 t18,Ld 20 none t19,Fa 21 2 t3,Sxn 1 t21 t20] [[],[0],[1],[2],[],[4],[3,5],[6],[0,1,2,3,4,5,6,7],[8,7,0,1,2,3,4,5,6,7]] [(0,[]),(1,[]),(2,[]),(3,[]),(4,[]),(5,[]),(6,[]),(7,[]),(8,[]),(9,[])]
abbrev C104_18 := Sq [0,3] C104_16 C104_17
abbrev C104_19 := Bk 2 C104_18
abbrev C104_20 := Dr [Mv 22 t0,Nc 23 t22,Fa 24 1 t23,Ld 25 none t24,Fa 26 1 t3,Ld 27 none t26,Ix 28 1 t25 t27,Ld 29 none t28,Fa 30 1 t3,Sxn 1 t30 t29] [[],[0],[1],[2],[],[4],[3,5],[6],[0,1,2,3,4,5,6,7],[8,7,0,1,2,3,4,5,6,7]] [(0,[]),(1,[]),(2,[]),(3,[]),(4,[]),(5,[]),(6,[]),(7,[]),(8,[]),(9,[])]
abbrev C104_21 := Sq [0,3] C104_20 (.exit 0)
abbrev C104_22 := Sq [0,3] C104_19 C104_21
abbrev C104_23 := Bk 0 C104_22
abbrev C104_24 := Sq [0,3,6] C104_1 C104_23
abbrev C104_25 := Ro [Fa 31 0 t3,Ld 32 none t31,Bn 33 .eql t32 (kI 3)]
abbrev C104_26 := Ro [Mv 34 t0,Ld 35 (some 6) t3,Ca 36 132 [t34,t35],As 4 t36]
abbrev C104_27 := Sq [4] C104_26 .ret
abbrev C104_28 := Cd t33 C104_27 .skip
abbrev C104_29 := Sq [0,3,33] C104_25 C104_28
abbrev C104_30 := Ro [Mv 37 t0,Ld 38 (some 6) t3,Ca 39 133 [t37,t38],As 4 t39]
abbrev C104_31 := Sq [4] C104_30 .ret
abbrev C104_32 := Sq [0,3] C104_29 C104_31
abbrev C104_33 := Sq [0,3] C104_24 C104_32
abbrev C104_34 := Sq [0,3] C104_0 C104_33
abbrev C104 := C104_34
abbrev C104r : List RV := [.t 4]
theorem C104ok : Okf Tryz.prog 104 Tryz.f104 C104 C104r := ⟨Tryz.func104, by kernel_rfl, by kernel_rfl, by kernel_rfl⟩

abbrev C105_0 := Ro [⟨(some 3),none,.e (.box t1)⟩,As 4 (kI 0)]
abbrev C105_1 := Ro [Fa 6 0 t3,Ld 7 none t6]
abbrev C105_2 := Ro [Bn 9 .eql t7 (kI 3),As 8 t9]
abbrev C105_3 := Ro [Bn 10 .eql t7 (kI 5),As 8 t10]
abbrev C105_4 := Ro [Bn 11 .eql t7 (kI 6),As 8 t11]
abbrev C105_5 := Cd t8 .skip C105_4
abbrev C105_6 := Sq [0,3,7,8] C105_3 C105_5
abbrev C105_7 := Cd t8 .skip C105_6
abbrev C105_8 := Sq [0,3,7,8] C105_2 C105_7
abbrev C105_9 := Cd t8 (.exit 1) .skip
abbrev C105_10 := Sq [0,3,7,8] C105_8 C105_9
abbrev C105_11 := Ro [Bn 13 .eql t7 (kI 4),As 12 t13]
abbrev C105_12 := Cd t12 (.exit 2) .skip
abbrev C105_13 := Sq [0,3,12] C105_11 C105_12
abbrev C105_14 := Sq [0,3,7] C105_10 C105_13
abbrev C105_15 := Sq [0,3] C105_14 (.exit 0)
abbrev C105_16 := Bk 1 C105_15
abbrev C105_17 := Dr [Mv 14 t0,Nc 15 t14,Fa 16 1 t15,Ld 17 none t16,Fa 18 2 t3,Ld 19 none t18,Ix 20 1 t17 t19,Ld 21 none t20,Fa 22 2 t3,Sxn 1 t22 t21] [[],[0],[1],[2],[],[4],[3,5],[6],[0,1,2,3,4,5,6,7],[8,7,0,1,2,3,4,5,6,7]] [(0,[]),(1,[]),(2,[]),(3,[]),(4,[]),(5,[]),(6,[]),(7,[]),(8,[]),(9,[])]
abbrev C105_18 := Sq [0,3] C105_16 C105_17
abbrev C105_19 := Bk 2 C105_18
abbrev C105_20 := Dr [Mv 23 t0,Nc 24 t23,Fa 25 1 t24,Ld 26 none t25,Fa 27 1 t3,Ld 28 none t27,Ix 29 1 t26 t28,Ld 30 none t29,Fa 31 1 t3,Sxn 1 t31 t30] [[],[0],[1],[2],[],[4],[3,5],[6],[0,1,2,3,4,5,6,7],[8,7,0,1,2,3,4,5,6,7]] [(0,[]),(1,[]),(2,[]),(3,[]),(4,[]),(5,[]),(6,[]),(7,[]),(8,[]),(9,[])]
abbrev C105_21 := Sq [0,3] C105_20 (.exit 0)
abbrev C105_22 := Sq [0,3] C105_19 C105_21
abbrev C105_23 := Bk 0 C105_22
abbrev C105_24 := Sq [0,3,7] C105_1 C105_23
abbrev C105_25 := Ro [Mv 32 t0,Ld 33 (some 6) t3,Ca 34 134 [t32,t33],As 5 t34]
abbrev C105_26 := Ro [Mv 35 t5,Bn 36 .geq t35 (kI 0)]
abbrev C105_27 := Ro [Mv 37 t5,As 4 t37]
abbrev C105_28 := Sq [4] C105_27 .ret
abbrev C105_29 := Cd t36 C105_28 .skip
abbrev C105_30 := Sq [0,3,5,36] C105_26 C105_29
abbrev C105_31 := Sq [0,3,5] C105_25 C105_30
abbrev C105_32 := Dr [Mv 38 t0,Nc 39 t38,Fa 40 0 t39,Ld 41 none t40,Mv 42 t0,Nc 43 t42,Fa 44 0 t43,Ld 45 none t44,Nc 46 t45,Fa 47 1 t46,Ld 48 none t47,Ld 49 (some 6) t3,⟨(some 50),none,.e (.bsr 1 [zi,zi,zi,z4,zi,zi] [(0,6,t49)])⟩,Ap 51 6 48 t48 t50,Nc 52 t41,Fa 53 1 t52,Sxn 1 t53 t51] [[],[0],[1],[2],[],[4],[5],[6],[7],[8],[9],[],[11],[10,12],[3,0,1,2,3,4,5,6,7,8,9,10,11,12,13],[14,0,1,2,3,4,5,6,7,8,9,10,11,12,13],[15,13,13,0,1,2,3,4,5,6,7,8,9,10,11,12,13]] [(0,[]),(1,[]),(2,[]),(3,[]),(4,[]),(5,[]),(6,[]),(7,[]),(8,[]),(9,[]),(10,[]),(11,[]),(12,[0,1,2,3,4,5,6,7,8,9,10]),(13,[0,1,2,3]),(14,[]),(15,[]),(16,[])]
abbrev C105_33 := Ro [Fa 54 0 t3,Ld 55 none t54,Bn 56 .eql t55 (kI 5)]
abbrev C105_34 := Ro [Mv 57 t0,Mv 58 t0,Nc 59 t58,Fa 60 0 t59,Ld 61 none t60,Nc 62 t61,Fa 63 1 t62,Ld 64 none t63,Ln 65 t64,Nc 66 t57,Fa 67 2 t66,Sxn 1 t67 t65]
abbrev C105_35 := Cd t56 C105_34 .skip
abbrev C105_36 := Sq [0,56] C105_33 C105_35
abbrev C105_37 := Ro [Mv 68 t0,Nc 69 t68,Fa 70 0 t69,Ld 71 none t70,Nc 72 t71,Fa 73 1 t72,Ld 74 none t73,Ln 75 t74,Bn 76 .sub t75 (kI 1),As 4 t76]
abbrev C105_38 := Sq [4] C105_37 .ret
abbrev C105_39 := Sq [0] C105_36 C105_38
abbrev C105_40 := Sq [0,3] C105_32 C105_39
abbrev C105_41 := Sq [0,3] C105_31 C105_40
abbrev C105_42 := Sq [0,3] C105_24 C105_41
abbrev C105_43 := Sq [0,3] C105_0 C105_42
abbrev C105 := C105_43
abbrev C105r : List RV := [.t 4]
theorem C105ok : Okf Tryz.prog 105 Tryz.f105 C105 C105r := ⟨Tryz.func105, by kernel_rfl, by kernel_rfl, by kernel_rfl⟩
end Go.Ab
end
section
/- The code of some functions, with what their types tell written out; each is what the translation gives (kernel_rfl). Printed by mk.py out of the translation. -/
namespace Go.Ab
open Go.Proofs Go.Sc
set_option maxRecDepth 100000
abbrev C106_0 := Ro [Mv 15 t1,Nc 16 t15,Fa 17 2 t16,Ld 18 none t17,Ln 19 t18,⟨(some 20),none,.e (.mks 8 [.int .i64 0] t19 t19)⟩,Al 6 [.nils],Sxn 1 t6 t20]
abbrev C106_1 := Ro [⟨(some 21),none,.r (.mkf 135 [] [t6])⟩,As 7 t21]
abbrev C106_2 := Ro [Mv 22 t7,Mv 23 t2,⟨(some 24),none,.e (.callv t22 [t23])⟩]
abbrev C106_3 := Ro [Mv 25 t0,Nc 26 t25,Fa 27 0 t26,Ld 28 none t27,Nc 29 t28,Fa 30 1 t29,Ld 31 none t30,Ln 32 t31,Mv 33 (kI 0)]
abbrev C106_4 := Ro [Bn 34 .lss t33 t32]
abbrev C106_5 := Cd t34 .skip (.exit 0)
abbrev C106_6 := Ro [Ix 35 6 t31 t33,Ld 36 (some 6) t35,Al 9 [zi,zi,zi,z4,zi,zi],Sxn 6 t9 t36]
abbrev C106_7 := Ro [Fa 37 0 t9,Ld 38 none t37]
abbrev C106_8 := Ro [Bn 40 .eql t38 (kI 5),As 39 t40]
abbrev C106_9 := Cd t39 (.exit 3) .skip
abbrev C106_10 := Sq [0,1,2,6,7,9,31,32,33,38,39] C106_8 C106_9
abbrev C106_11 := Ro [Bn 42 .eql t38 (kI 4),As 41 t42]
abbrev C106_12 := Ro [Bn 43 .eql t38 (kI 6),As 41 t43]
abbrev C106_13 := Cd t41 .skip C106_12
abbrev C106_14 := Sq [0,1,2,6,7,9,31,32,33,38,41] C106_11 C106_13
abbrev C106_15 := Cd t41 (.exit 4) .skip
abbrev C106_16 := Sq [0,1,2,6,7,9,31,32,33,41] C106_14 C106_15
abbrev C106_17 := Sq [0,1,2,6,7,9,31,32,33,38] C106_10 C106_16
abbrev C106_18 := Sq [0,1,2,6,7,31,32,33] C106_17 (.exit 2)
abbrev C106_19 := Bk 3 C106_18
abbrev C106_20 := Ro [Mv 44 t7,Fa 45 5 t9,Ld 46 none t45,⟨(some 47),none,.e (.callv t44 [t46])⟩]
abbrev C106_21 := Sq [0,1,2,6,7,9,31,32,33] C106_19 C106_20
abbrev C106_22 := Bk 4 C106_21
abbrev C106_23 := Ro [Mv 48 t7,Fa 49 4 t9,Ld 50 none t49,⟨(some 51),none,.e (.callv t48 [t50])⟩]
abbrev C106_24 := Sq [0,1,2,6,7,31,32,33] C106_23 (.exit 2)
abbrev C106_25 := Sq [0,1,2,6,7,9,31,32,33] C106_22 C106_24
abbrev C106_26 := Bk 2 C106_25
abbrev C106_27 := Sq [0,1,2,6,7,9,31,32,33,38] C106_7 C106_26
abbrev C106_28 : ACode := .fz 9 C106_27
abbrev C106_29 := Sq [0,1,2,6,7,9,31,32,33] C106_6 C106_28
abbrev C106_30 := Bk 1 C106_29
abbrev C106_31 := Ro [Bn 52 .add t33 (kI 1),Mv 33 t52]
abbrev C106_32 := Sq [0,1,2,6,7,31,32,33] C106_30 C106_31
abbrev C106_33 := Sq [0,1,2,6,7,31,32,33] C106_5 C106_32
abbrev C106_34 := Sq [0,1,2,6,7,31,32,33,34] C106_4 C106_33
abbrev C106_35 : ACode := .loop C106_34
abbrev C106_36 := Bk 0 C106_35
abbrev C106_37 := Sq [0,1,2,6,7,31,32,33] C106_3 C106_36
abbrev C106_38 := Ro [Mv 53 t1,Nc 54 t53,Fa 55 2 t54,Ld 56 none t55,Ln 57 t56,Mv 58 (kI 0)]
abbrev C106_39 := Ro [Bn 59 .lss t58 t57]
abbrev C106_40 := Cd t59 .skip (.exit 5)
abbrev C106_41 := Ro [Mv 60 t58,Ix 61 5 t56 t58,Ld 62 (some 5) t61,Al 11 [zi,z4,zi,zi,.nils],As 10 t60,Sxn 5 t11 t62]
abbrev C106_42 := Ro [Ld 63 none t6,Mv 64 t10,Ix 65 1 t63 t64,Ld 66 none t65,Bn 67 .eql t66 (kI 0)]
abbrev C106_43 := Cd t67 (.exit 6) .skip
abbrev C106_44 := Sq [0,2,6,10,11,56,57,58,67] C106_42 C106_43
abbrev C106_45 := Dr [Ld 68 none t6,Mv 69 t10,Mv 70 t0,Nc 71 t70,Fa 72 0 t71,Ld 73 none t72,Nc 74 t73,Fa 75 2 t74,Ld 76 none t75,Ln 77 t76,Ix 78 1 t68 t69,Sxn 1 t78 t77] [[],[],[],[2],[3],[4],[5],[6],[7],[8],[0,1,0,1,2,3,4,5,6,7,8,9],[10,9,0,1,2,3,4,5,6,7,8,9]] [(0,[]),(1,[]),(2,[]),(3,[]),(4,[]),(5,[]),(6,[]),(7,[]),(8,[]),(9,[]),(10,[]),(11,[])]
abbrev C106_46 := Ro [Fa 79 4 t11,Ld 80 none t79,Ca 81 64 [t80],Fa 82 4 t11,Sxn 1 t82 t81]
abbrev C106_47 := Ro [Fa 83 4 t11,Ld 84 none t83,Ln 85 t84,Mv 86 (kI 0)]
abbrev C106_48 := Ro [Bn 87 .lss t86 t85]
abbrev C106_49 := Cd t87 .skip (.exit 7)
abbrev C106_50 := Ro [Mv 88 t86,As 12 t88]
abbrev C106_51 := Dr [Fa 89 4 t11,Ld 90 none t89,Mv 91 t12,Mv 92 t0,Nc 93 t92,Fa 94 1 t93,Ld 95 none t94,Fa 96 4 t11,Ld 97 none t96,Mv 98 t12,Ix 99 2 t97 t98,Fa 100 1 t99,Ld 101 none t100,Ix 102 1 t95 t101,Ld 103 none t102,Ix 104 2 t90 t91,Fa 105 1 t104,Sxn 1 t105 t103] [[],[0],[],[],[3],[4],[5],[],[7],[],[8,9],[10],[11],[6,12],[13],[1,2,0,1,2,3,4,5,6,7,8,9,10,11,12,13,14],[15,0,1,2,3,4,5,6,7,8,9,10,11,12,13,14],[16,14,0,1,2,3,4,5,6,7,8,9,10,11,12,13,14]] [(0,[]),(1,[]),(2,[]),(3,[]),(4,[]),(5,[]),(6,[]),(7,[]),(8,[]),(9,[]),(10,[]),(11,[]),(12,[]),(13,[]),(14,[]),(15,[]),(16,[]),(17,[])]
abbrev C106_52 := Sq [0,2,6,11,12,56,57,58,85,86] C106_50 C106_51
abbrev C106_53 := Bk 8 C106_52
abbrev C106_54 := Ro [Bn 106 .add t86 (kI 1),Mv 86 t106]
abbrev C106_55 := Sq [0,2,6,11,56,57,58,85,86] C106_53 C106_54
abbrev C106_56 := Sq [0,2,6,11,56,57,58,85,86] C106_49 C106_55
abbrev C106_57 := Sq [0,2,6,11,56,57,58,85,86,87] C106_48 C106_56
abbrev C106_58 : ACode := .loop C106_57
abbrev C106_59 := Bk 7 C106_58
abbrev C106_60 := Sq [0,2,6,11,56,57,58,85,86] C106_47 C106_59
abbrev C106_61 := Ro [Fa 107 2 t11,Ld 108 none t107,Bn 109 .neq t108 (kI (-1))]
abbrev C106_62 := Dr [Mv 110 t0,Nc 111 t110,Fa 112 1 t111,Ld 113 none t112,Fa 114 2 t11,Ld 115 none t114,Ix 116 1 t113 t115,Ld 117 none t116,Fa 118 2 t11,Sxn 1 t118 t117] [[],[0],[1],[2],[],[4],[3,5],[6],[0,1,2,3,4,5,6,7],[8,7,0,1,2,3,4,5,6,7]] [(0,[]),(1,[]),(2,[]),(3,[]),(4,[]),(5,[]),(6,[]),(7,[]),(8,[]),(9,[])]
abbrev C106_63 := Cd t109 C106_62 .skip
abbrev C106_64 := Sq [0,2,6,11,56,57,58,109] C106_61 C106_63
abbrev C106_65 := Dr [Mv 119 t0,Nc 120 t119,Fa 121 0 t120,Ld 122 none t121,Mv 123 t0,Nc 124 t123,Fa 125 0 t124,Ld 126 none t125,Nc 127 t126,Fa 128 2 t127,Ld 129 none t128,Ld 130 (some 5) t11,⟨(some 131),none,.e (.bsr 1 [zi,z4,zi,zi,.nils] [(0,5,t130)])⟩,Ap 132 5 56 t129 t131,Nc 133 t122,Fa 134 2 t133,Sxn 1 t134 t132] [[],[0],[1],[2],[],[4],[5],[6],[7],[8],[9],[],[11],[10,12],[3,0,1,2,3,4,5,6,7,8,9,10,11,12,13],[14,0,1,2,3,4,5,6,7,8,9,10,11,12,13],[15,13,13,0,1,2,3,4,5,6,7,8,9,10,11,12,13]] [(0,[]),(1,[]),(2,[]),(3,[]),(4,[]),(5,[]),(6,[]),(7,[]),(8,[]),(9,[]),(10,[]),(11,[]),(12,[0,1,2,3,4,5,6,7,8,9,10]),(13,[0,1,2,3]),(14,[]),(15,[]),(16,[])]
abbrev C106_66 := Sq [0,2,6,11,56,57,58] C106_64 C106_65
abbrev C106_67 := Sq [0,2,6,11,56,57,58] C106_60 C106_66
abbrev C106_68 := Sq [0,2,6,11,56,57,58] C106_46 C106_67
abbrev C106_69 := Sq [0,2,6,11,56,57,58] C106_45 C106_68
abbrev C106_70 := Sq [0,2,6,10,11,56,57,58] C106_44 C106_69
abbrev C106_71 := Sq [0,2,6,10,11,56,57,58] C106_41 C106_70
abbrev C106_72 := Bk 6 C106_71
abbrev C106_73 := Ro [Bn 135 .add t58 (kI 1),Mv 58 t135]
abbrev C106_74 := Sq [0,2,6,56,57,58] C106_72 C106_73
abbrev C106_75 := Sq [0,2,6,56,57,58] C106_40 C106_74
abbrev C106_76 := Sq [0,2,6,56,57,58,59] C106_39 C106_75
abbrev C106_77 : ACode := .loop C106_76
abbrev C106_78 := Bk 5 C106_77
abbrev C106_79 := Sq [0,2,6,56,57,58] C106_38 C106_78
abbrev C106_80 := Dr [Mv 136 t0,Nc 137 t136,Fa 138 0 t137,Ld 139 none t138,Ld 140 none t6,Mv 141 t2,Ix 142 1 t140 t141,Ld 143 none t142,Nc 144 t139,Fa 145 3 t144,Sxn 1 t145 t143] [[],[0],[1],[2],[],[],[4,5],[6],[3,0,1,2,3,4,5,6,7],[8,0,1,2,3,4,5,6,7],[9,7,0,1,2,3,4,5,6,7]] [(0,[]),(1,[]),(2,[]),(3,[]),(4,[]),(5,[]),(6,[]),(7,[]),(8,[]),(9,[]),(10,[])]
abbrev C106_81 := Ro [Mv 146 t0,Nc 147 t146,Fa 148 0 t147,Ld 149 none t148,Nc 150 t149,Fa 151 1 t150,Ld 152 none t151,Ln 153 t152,Mv 154 (kI 0)]
abbrev C106_82 := Ro [Bn 155 .lss t154 t153]
abbrev C106_83 := Cd t155 .skip (.exit 9)
abbrev C106_84 := Ro [Mv 156 t154,As 13 t156]
abbrev C106_85 := Ro [Mv 157 t0,Nc 158 t157,Fa 159 0 t158,Ld 160 none t159,Nc 161 t160,Fa 162 1 t161,Ld 163 none t162,Mv 164 t13,Ix 165 6 t163 t164,As 14 t165]
abbrev C106_86 := Ro [Mv 166 t14,Nc 167 t166,Fa 168 0 t167,Ld 169 none t168]
abbrev C106_87 := Ro [Bn 171 .eql t169 (kI 5),As 170 t171]
abbrev C106_88 := Cd t170 (.exit 12) .skip
abbrev C106_89 := Sq [0,6,14,153,154,169,170] C106_87 C106_88
abbrev C106_90 := Ro [Bn 173 .eql t169 (kI 4),As 172 t173]
abbrev C106_91 := Ro [Bn 174 .eql t169 (kI 6),As 172 t174]
abbrev C106_92 := Cd t172 .skip C106_91
abbrev C106_93 := Sq [0,6,14,153,154,169,172] C106_90 C106_92
abbrev C106_94 := Cd t172 (.exit 13) .skip
abbrev C106_95 := Sq [0,6,14,153,154,172] C106_93 C106_94
abbrev C106_96 := Sq [0,6,14,153,154,169] C106_89 C106_95
abbrev C106_97 := Sq [0,6,153,154] C106_96 (.exit 11)
abbrev C106_98 := Bk 12 C106_97
abbrev C106_99 := Dr [Mv 175 t14,Ld 176 none t6,Mv 177 t14,Nc 178 t177,Fa 179 5 t178,Ld 180 none t179,Ix 181 1 t176 t180,Ld 182 none t181,Nc 183 t175,Fa 184 5 t183,Sxn 1 t184 t182] [[],[],[],[2],[3],[4],[1,5],[6],[0,0,1,2,3,4,5,6,7],[8,0,1,2,3,4,5,6,7],[9,7,0,1,2,3,4,5,6,7]] [(0,[]),(1,[]),(2,[]),(3,[]),(4,[]),(5,[]),(6,[]),(7,[]),(8,[]),(9,[]),(10,[])]
abbrev C106_100 := Sq [0,6,14,153,154] C106_98 C106_99
abbrev C106_101 := Bk 13 C106_100
abbrev C106_102 := Dr [Mv 185 t14,Ld 186 none t6,Mv 187 t14,Nc 188 t187,Fa 189 4 t188,Ld 190 none t189,Ix 191 1 t186 t190,Ld 192 none t191,Nc 193 t185,Fa 194 4 t193,Sxn 1 t194 t192] [[],[],[],[2],[3],[4],[1,5],[6],[0,0,1,2,3,4,5,6,7],[8,0,1,2,3,4,5,6,7],[9,7,0,1,2,3,4,5,6,7]] [(0,[]),(1,[]),(2,[]),(3,[]),(4,[]),(5,[]),(6,[]),(7,[]),(8,[]),(9,[]),(10,[])]
abbrev C106_103 := Sq [0,6,153,154] C106_102 (.exit 11)
abbrev C106_104 := Sq [0,6,14,153,154] C106_101 C106_103
abbrev C106_105 := Bk 11 C106_104
abbrev C106_106 := Sq [0,6,14,153,154,169] C106_86 C106_105
abbrev C106_107 := Sq [0,6,14,153,154] C106_85 C106_106
abbrev C106_108 := Sq [0,6,13,153,154] C106_84 C106_107
abbrev C106_109 := Bk 10 C106_108
abbrev C106_110 := Ro [Bn 195 .add t154 (kI 1),Mv 154 t195]
abbrev C106_111 := Sq [0,6,153,154] C106_109 C106_110
abbrev C106_112 := Sq [0,6,153,154] C106_83 C106_111
abbrev C106_113 := Sq [0,6,153,154,155] C106_82 C106_112
abbrev C106_114 : ACode := .loop C106_113
abbrev C106_115 := Bk 9 C106_114
abbrev C106_116 := Sq [0,6,153,154] C106_81 C106_115
abbrev C106_117 := Sq [0,6] C106_80 C106_116
abbrev C106_118 := Sq [0,2,6] C106_79 C106_117
abbrev C106_119 := Sq [0,1,2,6] C106_37 C106_118
abbrev C106_120 := Sq [0,1,2,6,7] C106_2 C106_119
abbrev C106_121 := Sq [0,1,2,6,7] C106_1 C106_120
abbrev C106_122 : ACode := .fz 6 C106_121
abbrev C106_123 := Sq [0,1,2,6] C106_0 C106_122
abbrev C106 := C106_123
abbrev C106r : List RV := []
theorem C106ok : Okf Tryz.prog 106 Tryz.f106 C106 C106r := ⟨Tryz.func106, by kernel_rfl, by kernel_rfl, by kernel_rfl⟩

abbrev C107_0 := Ro [As 4 (kI 0)]
abbrev C107_1 := Ro [Mv 9 t1,Nc 10 t9,Fa 11 3 t10,Ld 12 none t11,As 5 t12]
abbrev C107_2 := Ro [Mv 13 t1,Nc 14 t13,Fa 15 1 t14,Ld 16 none t15,Ln 17 t16,Mv 18 (kI 0)]
abbrev C107_3 := Ro [Bn 19 .lss t18 t17]
abbrev C107_4 := Cd t19 .skip (.exit 0)
abbrev C107_5 := Ro [Ix 20 6 t16 t18,Ld 21 (some 6) t20,Al 7 [zi,zi,zi,z4,zi,zi],Sxn 6 t7 t21]
abbrev C107_6 := Ro [Mv 22 t0,Ld 23 (some 6) t7,Ca 24 136 [t22,t23],Sxn 6 t7 t24]
abbrev C107_7 := Ro [As 8 (kI 0)]
abbrev C107_8 := Ro [Fa 25 0 t7,Ld 26 none t25,Bn 27 .eql t26 (kI 6)]
abbrev C107_9 := Ro [Mv 28 t0,Ld 29 (some 6) t7,Ca 30 137 [t28,t29],As 8 t30]
abbrev C107_10 := Cd t27 C107_9 .skip
abbrev C107_11 := Sq [0,5,7,8,16,17,18,27] C107_8 C107_10
abbrev C107_12 := Ro [Mv 31 t8]
abbrev C107_13 := Ro [Bn 33 .eql t31 (kI 2),As 32 t33]
abbrev C107_14 := Ro [Fa 34 4 t7,Ld 35 none t34,As 5 t35]
abbrev C107_15 := Sq [5] C107_14 (.exit 0)
abbrev C107_16 := Ro [Bn 37 .eql t31 (kI 1),As 36 t37]
abbrev C107_17 := Ro [Mv 38 t0,Mv 39 t0,Nc 40 t39,Fa 41 1 t40,Ld 42 none t41,⟨(some 43),none,.e (.bsr 1 [.int .i64 0] [(0,1,(kI (-1)))])⟩,Ap 44 1 8 t42 t43,Nc 45 t38,Fa 46 1 t45,Sxn 1 t46 t44]
abbrev C107_18 := Sq [0,5,16,17,18] C107_17 (.exit 1)
abbrev C107_19 := Cd t36 C107_18 .skip
abbrev C107_20 := Sq [0,5,7,16,17,18,36] C107_16 C107_19
abbrev C107_21 := Cd t32 C107_15 C107_20
abbrev C107_22 := Sq [0,5,7,16,17,18,31,32] C107_13 C107_21
abbrev C107_23 := Bk 2 C107_22
abbrev C107_24 := Sq [0,5,7,16,17,18,31] C107_12 C107_23
abbrev C107_25 := Dr [Mv 47 t0,Mv 48 t0,Nc 49 t48,Fa 50 1 t49,Ld 51 none t50,Mv 52 t0,Nc 53 t52,Fa 54 0 t53,Ld 55 none t54,Nc 56 t55,Fa 57 1 t56,Ld 58 none t57,Ln 59 t58,⟨(some 60),none,.e (.bsr 1 [.int .i64 0] [(0,1,t59)])⟩,Ap 61 1 8 t51 t60,Nc 62 t47,Fa 63 1 t62,Sxn 1 t63 t61] [[],[],[1],[2],[3],[],[5],[6],[7],[8],[9],[10],[11],[12],[4,13],[0,0,1,2,3,4,5,6,7,8,9,10,11,12,13,14],[15,0,1,2,3,4,5,6,7,8,9,10,11,12,13,14],[16,14,14,0,1,2,3,4,5,6,7,8,9,10,11,12,13,14]] [(0,[]),(1,[]),(2,[]),(3,[]),(4,[]),(5,[]),(6,[]),(7,[]),(8,[]),(9,[]),(10,[]),(11,[]),(12,[]),(13,[0,1,2,3,4]),(14,[0]),(15,[]),(16,[]),(17,[])]
abbrev C107_26 := Dr [Mv 64 t0,Nc 65 t64,Fa 66 0 t65,Ld 67 none t66,Mv 68 t0,Nc 69 t68,Fa 70 0 t69,Ld 71 none t70,Nc 72 t71,Fa 73 1 t72,Ld 74 none t73,Ld 75 (some 6) t7,⟨(some 76),none,.e (.bsr 1 [zi,zi,zi,z4,zi,zi] [(0,6,t75)])⟩,Ap 77 6 48 t74 t76,Nc 78 t67,Fa 79 1 t78,Sxn 1 t79 t77] [[],[0],[1],[2],[],[4],[5],[6],[7],[8],[9],[],[11],[10,12],[3,0,1,2,3,4,5,6,7,8,9,10,11,12,13],[14,0,1,2,3,4,5,6,7,8,9,10,11,12,13],[15,13,13,0,1,2,3,4,5,6,7,8,9,10,11,12,13]] [(0,[]),(1,[]),(2,[]),(3,[]),(4,[]),(5,[]),(6,[]),(7,[]),(8,[]),(9,[]),(10,[]),(11,[]),(12,[0,1,2,3,4,5,6,7,8,9,10]),(13,[0,1,2,3]),(14,[]),(15,[]),(16,[])]
abbrev C107_27 := Sq [0,5,7,16,17,18] C107_25 C107_26
abbrev C107_28 := Sq [0,5,7,16,17,18] C107_24 C107_27
abbrev C107_29 := Sq [0,5,7,8,16,17,18] C107_11 C107_28
abbrev C107_30 := Sq [0,5,7,8,16,17,18] C107_7 C107_29
abbrev C107_31 := Sq [0,5,7,16,17,18] C107_6 C107_30
abbrev C107_32 := Sq [0,5,7,16,17,18] C107_5 C107_31
abbrev C107_33 := Bk 1 C107_32
abbrev C107_34 := Ro [Bn 80 .add t18 (kI 1),Mv 18 t80]
abbrev C107_35 := Sq [0,5,16,17,18] C107_33 C107_34
abbrev C107_36 := Sq [0,5,16,17,18] C107_4 C107_35
abbrev C107_37 := Sq [0,5,16,17,18,19] C107_3 C107_36
abbrev C107_38 : ACode := .loop C107_37
abbrev C107_39 := Bk 0 C107_38
abbrev C107_40 := Sq [0,5,16,17,18] C107_2 C107_39
abbrev C107_41 := Ro [Mv 81 t5,As 4 t81]
abbrev C107_42 := Sq [4] C107_41 .ret
abbrev C107_43 := Sq [5] C107_40 C107_42
abbrev C107_44 := Sq [0,1,5] .lab C107_43
abbrev C107_45 := Sq [0,1,5] C107_1 C107_44
abbrev C107_46 : ACode := .scp C107_45
abbrev C107_47 := Sq [0,1] C107_0 C107_46
abbrev C107 := C107_47
abbrev C107r : List RV := [.t 4]
theorem C107ok : Okf Tryz.prog 107 Tryz.f107 C107 C107r := ⟨Tryz.func107, by kernel_rfl, by kernel_rfl, by kernel_rfl⟩

abbrev C108_0 := Ro [Br 1 t0,Al 2 [.nils,.nils]]
abbrev C108_1 : ACode := .dregt [Ld 8 none t1,Nc 9 t8,Fa 10 1 t9,Ld 11 none t10,Ln 12 t11,⟨(some 13),none,.e (.mks 1 [.bool false] t12 t12)⟩,Ld 14 none t1,Nc 15 t14,Fa 16 2 t15,Ld 17 none t16,Ln 18 t17,⟨(some 19),none,.e (.mks 1 [.bool false] t18 t18)⟩,⟨(some 20),none,.r (.bld [.nils,.nils] [(0,1,t13),(1,1,t19)])⟩,Al 3 [.nils,.nils],Sxn 2 t3 t20] [[],[0],[1],[2],[3],[4,4],[],[6],[7],[8],[9],[10,10],[5,11],[],[13,12,0,1,2,3,4,5,6,7,8,9,10,11,12,13]] (.r 0 (.r 1 (.r 2 (.r 3 (.r 4 (.r 6 (.r 7 (.r 8 (.r 9 (.r 10 (.e 5 [6,7,8,9,10] (.e 11 [0,1,2,3,4] (.r 12 (.e 13 [0,1,2,3,4,6,7,8,9,10,12] (.e 14 [] .nil .nil) .nil)) (.e 13 [0,1,2,3,4,6,7,8,9,10] (.e 11 [0,1,2,3,4] (.r 12 (.e 14 [] .nil .nil)) .nil) .nil)) (.e 11 [0,1,2,3,4] (.e 5 [6,7,8,9,10] (.r 12 (.e 13 [0,1,2,3,4,6,7,8,9,10,12] (.e 14 [] .nil .nil) .nil)) (.e 13 [0,1,2,3,4,6,7,8,9,10] (.e 5 [6,7,8,9,10] (.r 12 (.e 14 [] .nil .nil)) .nil) .nil)) (.e 13 [0,1,2,3,4,6,7,8,9,10] (.e 5 [6,7,8,9,10] (.e 11 [0,1,2,3,4] (.r 12 (.e 14 [] .nil .nil)) .nil) (.e 11 [0,1,2,3,4] (.e 5 [6,7,8,9,10] (.r 12 (.e 14 [] .nil .nil)) .nil) .nil)) .nil)))))))))))))
abbrev C108_2 := Ro [Al 4 [.nilf]]
abbrev C108_3 := Ro [⟨(some 21),none,.r (.mkf 138 [] [t3,t1,t4])⟩,Sxn 1 t4 t21]
abbrev C108_4 := Ro [⟨(some 22),none,.r (.mkf 139 [] [t3,t1,t4])⟩,As 5 t22]
abbrev C108_5 := Ro [Mv 23 t5,Ld 24 none t1,Nc 25 t24,Fa 26 3 t25,Ld 27 none t26,⟨(some 28),none,.e (.callv t23 [t27])⟩]
abbrev C108_6 := Ro [Ld 29 none t1,Nc 30 t29,Fa 31 1 t30,Ld 32 none t31,Ln 33 t32,Mv 34 (kI 0)]
abbrev C108_7 := Ro [Bn 35 .lss t34 t33]
abbrev C108_8 := Cd t35 .skip (.exit 0)
abbrev C108_9 := Ro [Mv 36 t34,Ix 37 6 t32 t34,Ld 38 (some 6) t37,Al 7 [zi,zi,zi,z4,zi,zi],As 6 t36,Sxn 6 t7 t38]
abbrev C108_10 := Ro [Fa 39 0 t7,Ld 40 none t39]
abbrev C108_11 := Ro [Bn 42 .eql t40 (kI 5),As 41 t42]
abbrev C108_12 := Cd t41 (.exit 3) .skip
abbrev C108_13 := Sq [2,3,4,5,6,7,32,33,34,40,41] C108_11 C108_12
abbrev C108_14 := Ro [Bn 44 .eql t40 (kI 4),As 43 t44]
abbrev C108_15 := Ro [Bn 45 .eql t40 (kI 6),As 43 t45]
abbrev C108_16 := Cd t43 .skip C108_15
abbrev C108_17 := Sq [2,3,4,5,6,7,32,33,34,40,43] C108_14 C108_16
abbrev C108_18 := Cd t43 (.exit 4) .skip
abbrev C108_19 := Sq [2,3,4,5,6,7,32,33,34,43] C108_17 C108_18
abbrev C108_20 := Sq [2,3,4,5,6,7,32,33,34,40] C108_13 C108_19
abbrev C108_21 := Sq [2,3,4,5,32,33,34] C108_20 (.exit 2)
abbrev C108_22 := Bk 3 C108_21
abbrev C108_23 := Ro [Mv 46 t5,Fa 47 5 t7,Ld 48 none t47,⟨(some 49),none,.e (.callv t46 [t48])⟩]
abbrev C108_24 := Sq [2,3,4,5,6,7,32,33,34] C108_22 C108_23
abbrev C108_25 := Bk 4 C108_24
abbrev C108_26 := Ro [Mv 50 t5,Fa 51 4 t7,Ld 52 none t51,⟨(some 53),none,.e (.callv t50 [t52])⟩]
abbrev C108_27 := Ro [Ld 54 none t4,Mv 55 t6,⟨(some 56),none,.e (.callv t54 [t55])⟩]
abbrev C108_28 := Sq [2,3,4,5,6,32,33,34] C108_26 C108_27
abbrev C108_29 := Sq [2,3,4,5,32,33,34] C108_28 (.exit 2)
abbrev C108_30 := Sq [2,3,4,5,6,7,32,33,34] C108_25 C108_29
abbrev C108_31 := Bk 2 C108_30
abbrev C108_32 := Sq [2,3,4,5,6,7,32,33,34,40] C108_10 C108_31
abbrev C108_33 : ACode := .fz 7 C108_32
abbrev C108_34 := Sq [2,3,4,5,6,7,32,33,34] C108_9 C108_33
abbrev C108_35 := Bk 1 C108_34
abbrev C108_36 := Ro [Bn 57 .add t34 (kI 1),Mv 34 t57]
abbrev C108_37 := Sq [2,3,4,5,32,33,34] C108_35 C108_36
abbrev C108_38 := Sq [2,3,4,5,32,33,34] C108_8 C108_37
abbrev C108_39 := Sq [2,3,4,5,32,33,34,35] C108_7 C108_38
abbrev C108_40 : ACode := .loop C108_39
abbrev C108_41 := Bk 0 C108_40
abbrev C108_42 := Sq [2,3,4,5,32,33,34] C108_6 C108_41
abbrev C108_43 := Ro [Ld 58 (some 2) t3,Sxn 2 t2 t58]
abbrev C108_44 := Sq [2] C108_43 .ret
abbrev C108_45 := Sq [2,3] C108_42 C108_44
abbrev C108_46 := Sq [1,2,3,4,5] C108_5 C108_45
abbrev C108_47 := Sq [1,2,3,4,5] C108_4 C108_46
abbrev C108_48 := Sq [1,2,3,4] C108_3 C108_47
abbrev C108_49 := Sq [1,2,3,4] C108_2 C108_48
abbrev C108_50 := Sq [1,2,3] C108_1 C108_49
abbrev C108_51 := Sq [1,2] C108_0 C108_50
abbrev C108 := C108_51
abbrev C108r : List RV := [.c 2 (some 2)]
theorem C108ok : Okf Tryz.prog 108 Tryz.f108 C108 C108r := ⟨Tryz.func108, by kernel_rfl, by kernel_rfl, by kernel_rfl⟩

abbrev C109_0 := Ro [As 2 kS]
abbrev C109_1 := Ro [Mv 7 t0,Ln 8 t7,⟨(some 9),none,.e (.mks 8 [.int .i64 0] t8 t8)⟩,As 3 t9]
abbrev C109_2 := Ro [As 4 (kI 0)]
abbrev C109_3 := Ro [Mv 10 t0,Ln 11 t10,Mv 12 (kI 0)]
abbrev C109_4 := Ro [Bn 13 .lss t12 t11]
abbrev C109_5 := Cd t13 .skip (.exit 0)
abbrev C109_6 := Ro [Mv 14 t12,Ix 15 1 t10 t12,Ld 16 none t15,As 5 t14,As 6 t16]
abbrev C109_7 := Ro [Mv 17 t3,Mv 18 t5,Mv 19 t4,Ix 20 1 t17 t18,Sxn 1 t20 t19]
abbrev C109_8 := Ro [Mv 21 t6]
abbrev C109_9 := Ro [Mv 22 t4,Bn 23 .add t22 (kI 1),As 4 t23]
abbrev C109_10 := Cd t21 C109_9 .skip
abbrev C109_11 := Sq [3,4,10,11,12,21] C109_8 C109_10
abbrev C109_12 := Sq [3,4,6,10,11,12] C109_7 C109_11
abbrev C109_13 := Sq [3,4,5,6,10,11,12] C109_6 C109_12
abbrev C109_14 := Bk 1 C109_13
abbrev C109_15 := Ro [Bn 24 .add t12 (kI 1),Mv 12 t24]
abbrev C109_16 := Sq [3,4,10,11,12] C109_14 C109_15
abbrev C109_17 := Sq [3,4,10,11,12] C109_5 C109_16
abbrev C109_18 := Sq [3,4,10,11,12,13] C109_4 C109_17
abbrev C109_19 : ACode := .loop C109_18
abbrev C109_20 := Bk 0 C109_19
abbrev C109_21 := Sq [3,4,10,11,12] C109_3 C109_20
abbrev C109_22 := Ro [Mv 25 t3,As 2 t25]
abbrev C109_23 := Sq [2] C109_22 .ret
abbrev C109_24 := Sq [3] C109_21 C109_23
abbrev C109_25 := Sq [0,3,4] C109_2 C109_24
abbrev C109_26 := Sq [0,3] C109_1 C109_25
abbrev C109_27 := Sq [0] C109_0 C109_26
abbrev C109 := C109_27
abbrev C109r : List RV := [.t 2]
theorem C109ok : Okf Tryz.prog 109 Tryz.f109 C109 C109r := ⟨Tryz.func109, by kernel_rfl, by kernel_rfl, by kernel_rfl⟩

abbrev C110_0 := Ro [⟨(some 3),none,.e (.box t0)⟩,Al 6 [zi,zi,zi,z4,zi,zi]]
abbrev C110_1 := Ro [Fa 7 0 t3,Ld 8 none t7]
abbrev C110_2 := Ro [Bn 10 .eql t8 (kI 5),As 9 t10]
abbrev C110_3 := Cd t9 (.exit 1) .skip
abbrev C110_4 := Sq [1,2,3,6,8,9] C110_2 C110_3
abbrev C110_5 := Ro [Bn 12 .eql t8 (kI 6),As 11 t12]
abbrev C110_6 := Cd t11 (.exit 2) .skip
abbrev C110_7 := Sq [1,2,3,6,8,11] C110_5 C110_6
abbrev C110_8 := Ro [Bn 14 .eql t8 (kI 3),As 13 t14]
abbrev C110_9 := Cd t13 (.exit 3) .skip
abbrev C110_10 := Sq [1,2,3,6,8,13] C110_8 C110_9
abbrev C110_11 := Ro [Bn 16 .eql t8 (kI 4),As 15 t16]
abbrev C110_12 := Cd t15 (.exit 4) .skip
abbrev C110_13 := Sq [1,2,3,6,15] C110_11 C110_12
abbrev C110_14 := Sq [1,2,3,6,8] C110_10 C110_13
abbrev C110_15 := Sq [1,2,3,6,8] C110_7 C110_14
abbrev C110_16 := Sq [1,2,3,6,8] C110_4 C110_15
abbrev C110_17 := Sq [3,6] C110_16 (.exit 0)
abbrev C110_18 := Bk 1 C110_17
abbrev C110_19 := Ro [Mv 17 t2,Fa 18 5 t3,Ld 19 none t18,Ix 20 1 t17 t19,Ld 21 none t20,Fa 22 5 t3,Sxn 1 t22 t21]
abbrev C110_20 := Sq [1,2,3,6] C110_18 C110_19
abbrev C110_21 := Bk 2 C110_20
abbrev C110_22 := Ro [Mv 23 t2,Fa 24 4 t3,Ld 25 none t24,Ix 26 1 t23 t25,Ld 27 none t26,Fa 28 4 t3,Sxn 1 t28 t27]
abbrev C110_23 := Sq [1,2,3,6] C110_21 C110_22
abbrev C110_24 := Bk 3 C110_23
abbrev C110_25 := Dr [Mv 29 t1,Fa 30 1 t3,Ld 31 none t30,Ix 32 1 t29 t31,Ld 33 none t32,Mv 34 t1,Fa 35 2 t3,Ld 36 none t35,Ix 37 1 t34 t36,Ld 38 none t37,Fa 39 1 t3,Sxn 1 t39 t33,Fa 40 2 t3,Sxn 1 t40 t38] [[],[],[1],[0,2],[3],[],[],[6],[5,7],[8],[0,1,2,3,4,6,7],[10,4,0,1,2,3,4,6,7],[0,1,2,3,4,5,6,7,8,9,10,11],[12,9,11,0,1,2,3,4,5,6,7,8,9,10,11]] [(0,[]),(1,[]),(2,[]),(3,[]),(4,[]),(5,[]),(6,[]),(7,[]),(8,[]),(9,[]),(10,[]),(11,[5,8,9]),(12,[]),(13,[])]
abbrev C110_26 := Sq [3,6] C110_25 (.exit 0)
abbrev C110_27 := Sq [1,3,6] C110_24 C110_26
abbrev C110_28 := Bk 4 C110_27
abbrev C110_29 := Dr [Mv 41 t1,Fa 42 1 t3,Ld 43 none t42,Ix 44 1 t41 t43,Ld 45 none t44,Mv 46 t2,Fa 47 4 t3,Ld 48 none t47,Ix 49 1 t46 t48,Ld 50 none t49,Fa 51 1 t3,Sxn 1 t51 t45,Fa 52 4 t3,Sxn 1 t52 t50] [[],[],[1],[0,2],[3],[],[],[6],[5,7],[8],[0,1,2,3,4,6,7],[10,4,0,1,2,3,4,6,7],[0,1,2,3,4,5,6,7,8,9,10,11],[12,9,11,0,1,2,3,4,5,6,7,8,9,10,11]] [(0,[]),(1,[]),(2,[]),(3,[]),(4,[]),(5,[]),(6,[]),(7,[]),(8,[]),(9,[]),(10,[]),(11,[5,8,9]),(12,[]),(13,[])]
abbrev C110_30 := Sq [3,6] C110_29 (.exit 0)
abbrev C110_31 := Sq [1,2,3,6] C110_28 C110_30
abbrev C110_32 := Bk 0 C110_31
abbrev C110_33 := Sq [1,2,3,6,8] C110_1 C110_32
abbrev C110_34 := Ro [Ld 53 (some 6) t3,Sxn 6 t6 t53]
abbrev C110_35 := Sq [6] C110_34 .ret
abbrev C110_36 := Sq [3,6] C110_33 C110_35
abbrev C110_37 := Sq [1,2,3,6] C110_0 C110_36
abbrev C110 := C110_37
abbrev C110r : List RV := [.c 6 (some 6)]
theorem C110ok : Okf Tryz.prog 110 Tryz.f110 C110 C110r := ⟨Tryz.func110, by kernel_rfl, by kernel_rfl, by kernel_rfl⟩

abbrev C111_0 := Ro [⟨(some 4),none,.e (.box t1)⟩,Al 6 [zi,z4,zi,zi,.nils]]
abbrev C111_1 := Ro [Fa 10 4 t4,Ld 11 none t10,As 7 t11]
abbrev C111_2 := Ro [Fa 12 4 t4,Sxn 1 t12 kS]
abbrev C111_3 := Ro [Fa 13 2 t4,Ld 14 none t13,Bn 15 .neq t14 (kI (-1))]
abbrev C111_4 := Ro [Mv 16 t2,Fa 17 2 t4,Ld 18 none t17,Ix 19 1 t16 t18,Ld 20 none t19,Fa 21 2 t4,Sxn 1 t21 t20]
abbrev C111_5 := Cd t15 C111_4 .skip
abbrev C111_6 := Sq [0,2,4,6,7,15] C111_3 C111_5
abbrev C111_7 := Ro [Mv 22 t7,Ln 23 t22,Mv 24 (kI 0)]
abbrev C111_8 := Ro [Bn 25 .lss t24 t23]
abbrev C111_9 := Cd t25 .skip (.exit 0)
abbrev C111_10 := Ro [Ix 26 2 t22 t24,Ld 27 (some 2) t26,Al 9 [.int .i64 0,.int .i64 0],Sxn 2 t9 t27]
abbrev C111_11 := Ro [Mv 28 t0,Ld 29 (some 2) t9,Ca 30 140 [t28,t29],Un 31 .not t30]
abbrev C111_12 := Dr [Fa 32 4 t4,Ld 33 none t32,Fa 34 0 t9,Ld 35 none t34,Mv 36 t2,Fa 37 1 t9,Ld 38 none t37,Ix 39 1 t36 t38,Ld 40 none t39,⟨(some 41),none,.r (.bld [.int .i64 0,.int .i64 0] [(0,1,t35),(1,1,t40)])⟩,⟨(some 42),none,.e (.bsr 1 [.int .i64 0,.int .i64 0] [(0,2,t41)])⟩,Ap 43 2 16 t33 t42,Fa 44 4 t4,Sxn 1 t44 t43] [[],[0],[],[2],[],[],[5],[4,6],[7],[3,8],[9],[1,10],[0,1,2,3,4,5,6,7,8,9,10,11],[12,11,11,0,1,2,3,4,5,6,7,8,9,10,11]] [(0,[]),(1,[]),(2,[]),(3,[]),(4,[]),(5,[]),(6,[]),(7,[]),(8,[]),(9,[]),(10,[0,1]),(11,[]),(12,[]),(13,[])]
abbrev C111_13 := Cd t31 C111_12 .skip
abbrev C111_14 := Sq [0,2,4,6,9,22,23,24,31] C111_11 C111_13
abbrev C111_15 : ACode := .fz 9 C111_14
abbrev C111_16 := Sq [0,2,4,6,9,22,23,24] C111_10 C111_15
abbrev C111_17 := Bk 1 C111_16
abbrev C111_18 := Ro [Bn 45 .add t24 (kI 1),Mv 24 t45]
abbrev C111_19 := Sq [0,2,4,6,22,23,24] C111_17 C111_18
abbrev C111_20 := Sq [0,2,4,6,22,23,24] C111_9 C111_19
abbrev C111_21 := Sq [0,2,4,6,22,23,24,25] C111_8 C111_20
abbrev C111_22 : ACode := .loop C111_21
abbrev C111_23 := Bk 0 C111_22
abbrev C111_24 := Sq [0,2,4,6,22,23,24] C111_7 C111_23
abbrev C111_25 := Ro [Ld 46 (some 5) t4,Sxn 5 t6 t46]
abbrev C111_26 := Sq [6] C111_25 .ret
abbrev C111_27 := Sq [4,6] C111_24 C111_26
abbrev C111_28 := Sq [0,2,4,6,7] C111_6 C111_27
abbrev C111_29 := Sq [0,2,4,6,7] C111_2 C111_28
abbrev C111_30 := Sq [0,2,4,6,7] C111_1 C111_29
abbrev C111_31 := Sq [0,2,4,6] C111_0 C111_30
abbrev C111 := C111_31
abbrev C111r : List RV := [.c 6 (some 5)]
theorem C111ok : Okf Tryz.prog 111 Tryz.f111 C111 C111r := ⟨Tryz.func111, by kernel_rfl, by kernel_rfl, by kernel_rfl⟩

abbrev C112_0 := Ro [As 2 kF]
abbrev C112_1 := Ro [Mv 3 t0,Bn 4 .geq t3 (kI 19),Mv 5 t4,Mvt 6 5 t0,Bnt 7 5 .leq t6 (kI 37),Pk 8 t5 t7 kF,As 2 t8]
abbrev C112_2 := Sq [2] C112_1 .ret
abbrev C112_3 := Sq [0] C112_0 C112_2
abbrev C112 := C112_3
abbrev C112r : List RV := [.t 2]
theorem C112ok : Okf Tryz.prog 112 Tryz.f112 C112 C112r := ⟨Tryz.func112, by kernel_rfl, by kernel_rfl, by kernel_rfl⟩

abbrev C115_0 := Ro [As 2 (kI 0)]
abbrev C115_1 := Ro [Mv 3 t0,Ca 4 112 [t3],Un 5 .not t4]
abbrev C115_2 := Ro [As 2 (kI 0)]
abbrev C115_3 := Sq [2] C115_2 .ret
abbrev C115_4 := Cd t5 C115_3 .skip
abbrev C115_5 := Sq [0,5] C115_1 C115_4
abbrev C115_6 := Ro [Mv 6 t0,Bn 7 .leq t6 (kI 27)]
abbrev C115_7 := Ro [⟨(some 8),none,.e (.bsr 9 [zi,zi,zi,zi,zi,zi,zi,zi,zi] [(0,1,(kI 28)),(1,1,(kI 31)),(2,1,(kI 32)),(3,1,(kI 33)),(4,1,(kI 36)),(5,1,(kI 37)),(6,1,(kI 30)),(7,1,(kI 34)),(8,1,(kI 35))])⟩,Mv 9 t0,Bn 10 .sub t9 (kI 19),Ix 11 1 t8 t10,Ld 12 none t11,As 2 t12]
abbrev C115_8 := Sq [2] C115_7 .ret
abbrev C115_9 := Cd t7 C115_8 .skip
abbrev C115_10 := Sq [0,7] C115_6 C115_9
abbrev C115_11 := Ro [Mv 13 t0,As 2 t13]
abbrev C115_12 := Sq [2] C115_11 .ret
abbrev C115_13 := Sq [0] C115_10 C115_12
abbrev C115_14 := Sq [0] C115_5 C115_13
abbrev C115_15 := Sq [0] C115_0 C115_14
abbrev C115 := C115_15
abbrev C115r : List RV := [.t 2]
theorem C115ok : Okf Tryz.prog 115 Tryz.f115 C115 C115r := ⟨Tryz.func115, by kernel_rfl, by kernel_rfl, by kernel_rfl⟩

abbrev C120_0 := Ro [As 2 (kU 0)]
abbrev C120_1 := Ro [Mv 3 t0,Bn 4 .geq t3 (kI 0)]
abbrev C120_2 := Ro [Mv 5 t0,Bn 6 .quo t5 (kI 4294967296),Ca 7 121 [t6],As 2 t7]
abbrev C120_3 := Sq [2] C120_2 .ret
abbrev C120_4 := Cd t4 C120_3 .skip
abbrev C120_5 := Sq [0,4] C120_1 C120_4
abbrev C120_6 := Ro [Mv 8 t0,Bn 9 .add t8 (kI 1),Bn 10 .sub (kI 0) t9,Bn 11 .quo t10 (kI 4294967296),Bn 12 .sub (kI 0) t11,Bn 13 .sub t12 (kI 1),Ca 14 121 [t13],As 2 t14]
abbrev C120_7 := Sq [2] C120_6 .ret
abbrev C120_8 := Sq [0] C120_5 C120_7
abbrev C120_9 := Sq [0] C120_0 C120_8
abbrev C120 := C120_9
abbrev C120r : List RV := [.t 2]
theorem C120ok : Okf Tryz.prog 120 Tryz.f120 C120 C120r := ⟨Tryz.func120, by kernel_rfl, by kernel_rfl, by kernel_rfl⟩

abbrev C121_0 := Ro [As 2 (kU 0)]
abbrev C121_1 := Ro [Mv 3 t0,Cv 4 .u64 t3,Bn 5 .rem t4 (kL 4294967296),Cv 6 .u32 t5,As 2 t6]
abbrev C121_2 := Sq [2] C121_1 .ret
abbrev C121_3 := Sq [0] C121_0 C121_2
abbrev C121 := C121_3
abbrev C121r : List RV := [.t 2]
theorem C121ok : Okf Tryz.prog 121 Tryz.f121 C121 C121r := ⟨Tryz.func121, by kernel_rfl, by kernel_rfl, by kernel_rfl⟩

abbrev C122_0 := Ro [As 2 (kU 0)]
abbrev C122_1 := Ro [Mv 3 t0]
abbrev C122_2 := Ro [As 2 (kU 1)]
abbrev C122_3 := Sq [2] C122_2 .ret
abbrev C122_4 := Cd t3 C122_3 .skip
abbrev C122_5 := Sq [3] C122_1 C122_4
abbrev C122_6 := Ro [As 2 (kU 0)]
abbrev C122_7 := Sq [2] C122_6 .ret
abbrev C122_8 := Sq [] C122_5 C122_7
abbrev C122_9 := Sq [0] C122_0 C122_8
abbrev C122 := C122_9
abbrev C122r : List RV := [.t 2]
theorem C122ok : Okf Tryz.prog 122 Tryz.f122 C122 C122r := ⟨Tryz.func122, by kernel_rfl, by kernel_rfl, by kernel_rfl⟩

abbrev C123_0 := Ro [As 6 (kU 0)]
abbrev C123_1 := Ro [As 7 (kL 0)]
abbrev C123_2 := Ro [As 8 (kI 0)]
abbrev C123_3 := Ro [Mv 10 t8,Bn 11 .lss t10 (kI 32)]
abbrev C123_4 := Cd t11 .skip (.exit 0)
abbrev C123_5 := Sq [0,1,2,7,8,11] C123_3 C123_4
abbrev C123_6 := Ro [Mv 14 t0,Mv 15 t8,Ca 16 142 [t14,t15,(kI 1)],Mv 17 t1,Mv 18 t8,Ca 19 142 [t17,t18,(kI 1)],Bn 20 .add t16 t19,As 9 t20]
abbrev C123_7 := Dr [Mv 21 t7,Mv 22 t2,Mv 23 t9,Ix 24 1 t22 t23,Ld 25 none t24,Mv 26 t8,Ca 27 93 [t26],Bn 28 .mul t25 t27,Bn 29 .add t21 t28,As 7 t29] [[],[],[],[1,2],[3],[],[5],[4,6],[0,7],[8,6,0,1,2,3,4,5,6,7,8]] [(0,[]),(1,[]),(2,[]),(3,[]),(4,[]),(5,[]),(6,[0,1,2,3,4]),(7,[]),(8,[]),(9,[])]
abbrev C123_8 := Sq [0,1,2,7,8,9] C123_6 C123_7
abbrev C123_9 := Bk 1 C123_8
abbrev C123_10 := Ro [Mv 12 t8,Bn 13 .add t12 (kI 1),As 8 t13]
abbrev C123_11 := Sq [0,1,2,7,8] C123_9 C123_10
abbrev C123_12 := Sq [0,1,2,7,8] C123_5 C123_11
abbrev C123_13 : ACode := .loop C123_12
abbrev C123_14 := Bk 0 C123_13
abbrev C123_15 := Sq [0,1,2,7,8] C123_2 C123_14
abbrev C123_16 := Ro [Mv 30 t7,Cv 31 .u32 t30,As 6 t31]
abbrev C123_17 := Sq [6] C123_16 .ret
abbrev C123_18 := Sq [7] C123_15 C123_17
abbrev C123_19 := Sq [0,1,2,7] C123_1 C123_18
abbrev C123_20 := Sq [0,1,2] C123_0 C123_19
abbrev C123 := C123_20
abbrev C123r : List RV := [.t 6]
theorem C123ok : Okf Tryz.prog 123 Tryz.f123 C123 C123r := ⟨Tryz.func123, by kernel_rfl, by kernel_rfl, by kernel_rfl⟩

abbrev C124_0 := Ro [As 4 (kI 0)]
abbrev C124_1 := Ro [Mv 6 t1,Ca 7 93 [t6],Cv 8 .i64 t7,As 5 t8]
abbrev C124_2 := Ro [Mv 9 t0,Bn 10 .geq t9 (kI 0)]
abbrev C124_3 := Ro [Mv 11 t0,Mv 12 t5,Bn 13 .quo t11 t12,As 4 t13]
abbrev C124_4 := Sq [4] C124_3 .ret
abbrev C124_5 := Cd t10 C124_4 .skip
abbrev C124_6 := Sq [0,5,10] C124_2 C124_5
abbrev C124_7 := Ro [Mv 14 t5,Bn 15 .sub t14 (kI 1),Mv 16 t0,Bn 17 .sub t15 t16,Mv 18 t5,Bn 19 .quo t17 t18,Bn 20 .sub (kI 0) t19,As 4 t20]
abbrev C124_8 := Sq [4] C124_7 .ret
abbrev C124_9 := Sq [0,5] C124_6 C124_8
abbrev C124_10 := Sq [0,5] C124_1 C124_9
abbrev C124_11 := Sq [0,1] C124_0 C124_10
abbrev C124 := C124_11
abbrev C124r : List RV := [.t 4]
theorem C124ok : Okf Tryz.prog 124 Tryz.f124 C124 C124r := ⟨Tryz.func124, by kernel_rfl, by kernel_rfl, by kernel_rfl⟩

abbrev C125_0 := Ro [Br 1 t0,As 2 kF]
abbrev C125_1 := Ro [Fa 4 3 t1,Ld 5 none t4,Cv 6 .i64 t5,As 3 t6]
abbrev C125_2 := Ro [Fa 7 0 t1,Ld 8 none t7]
abbrev C125_3 := Ro [Bn 10 .eql t8 (kI 1),As 9 t10]
abbrev C125_4 := Ro [Mv 11 t3,Bn 12 .geq t11 (kI 1),Mv 13 t12,Mvt 14 13 t3,Bnt 15 13 .leq t14 (kI 31),Pk 16 t13 t15 kF,As 2 t16]
abbrev C125_5 := Sq [2] C125_4 .ret
abbrev C125_6 := Ro [Bn 18 .eql t8 (kI 2),As 17 t18]
abbrev C125_7 := Ro [As 2 kT]
abbrev C125_8 := Sq [2] C125_7 .ret
abbrev C125_9 := Ro [Bn 20 .eql t8 (kI 3),As 19 t20]
abbrev C125_10 := Ro [Mv 21 t3,Ca 22 143 [t21],As 2 t22]
abbrev C125_11 := Sq [2] C125_10 .ret
abbrev C125_12 := Ro [Bn 24 .eql t8 (kI 4),As 23 t24]
abbrev C125_13 := Ro [Mv 25 t3,Ca 26 144 [t25],Bn 27 .gtr t26 (kI 0),As 2 t27]
abbrev C125_14 := Sq [2] C125_13 .ret
abbrev C125_15 := Ro [Bn 29 .eql t8 (kI 5),As 28 t29]
abbrev C125_16 := Ro [Mv 30 t3,Ca 31 145 [t30],Bn 32 .gtr t31 (kI 0),As 2 t32]
abbrev C125_17 := Sq [2] C125_16 .ret
abbrev C125_18 := Ro [Bn 34 .eql t8 (kI 6),As 33 t34]
abbrev C125_19 := Ro [Mv 35 t3,Bn 36 .geq t35 (kI 5),Mv 37 t36,Mvt 38 37 t3,Bnt 39 37 .leq t38 (kI 10),Pk 40 t37 t39 kF,As 2 t40]
abbrev C125_20 := Sq [2] C125_19 .ret
abbrev C125_21 := Cd t33 C125_20 .skip
abbrev C125_22 := Sq [3,33] C125_18 C125_21
abbrev C125_23 := Cd t28 C125_17 C125_22
abbrev C125_24 := Sq [3,8,28] C125_15 C125_23
abbrev C125_25 := Cd t23 C125_14 C125_24
abbrev C125_26 := Sq [3,8,23] C125_12 C125_25
abbrev C125_27 := Cd t19 C125_11 C125_26
abbrev C125_28 := Sq [3,8,19] C125_9 C125_27
abbrev C125_29 := Cd t17 C125_8 C125_28
abbrev C125_30 := Sq [3,8,17] C125_6 C125_29
abbrev C125_31 := Cd t9 C125_5 C125_30
abbrev C125_32 := Sq [3,8,9] C125_3 C125_31
abbrev C125_33 := Bk 0 C125_32
abbrev C125_34 := Sq [3,8] C125_2 C125_33
abbrev C125_35 := Ro [As 2 kF]
abbrev C125_36 := Sq [2] C125_35 .ret
abbrev C125_37 := Sq [] C125_34 C125_36
abbrev C125_38 := Sq [1,3] C125_1 C125_37
abbrev C125_39 := Sq [1] C125_0 C125_38
abbrev C125 := C125_39
abbrev C125r : List RV := [.t 2]
theorem C125ok : Okf Tryz.prog 125 Tryz.f125 C125 C125r := ⟨Tryz.func125, by kernel_rfl, by kernel_rfl, by kernel_rfl⟩

abbrev C126_0 := Ro [Br 1 t0,As 2 kF]
abbrev C126_1 := Ro [Fa 4 0 t1,Ld 5 none t4,Fa 6 3 t1,Ld 7 none t6,⟨(some 8),none,.r (.bld [zi,zi,zi,z4,zi,zi] [(0,1,t5),(3,1,t7)])⟩,Al 3 [zi,zi,zi,z4,zi,zi],Sxn 6 t3 t8]
abbrev C126_2 := Ro [Fa 9 0 t1,Ld 10 none t9]
abbrev C126_3 := Ro [Bn 12 .eql t10 (kI 5),As 11 t12]
abbrev C126_4 := Cd t11 (.exit 1) .skip
abbrev C126_5 := Sq [1,3,10,11] C126_3 C126_4
abbrev C126_6 := Ro [Bn 14 .eql t10 (kI 6),As 13 t14]
abbrev C126_7 := Cd t13 (.exit 2) .skip
abbrev C126_8 := Sq [1,3,10,13] C126_6 C126_7
abbrev C126_9 := Ro [Bn 16 .eql t10 (kI 3),As 15 t16]
abbrev C126_10 := Cd t15 (.exit 3) .skip
abbrev C126_11 := Sq [1,3,10,15] C126_9 C126_10
abbrev C126_12 := Ro [Bn 18 .eql t10 (kI 4),As 17 t18]
abbrev C126_13 := Cd t17 (.exit 4) .skip
abbrev C126_14 := Sq [1,3,17] C126_12 C126_13
abbrev C126_15 := Sq [1,3,10] C126_11 C126_14
abbrev C126_16 := Sq [1,3,10] C126_8 C126_15
abbrev C126_17 := Sq [1,3,10] C126_5 C126_16
abbrev C126_18 := Sq [1,3] C126_17 (.exit 0)
abbrev C126_19 := Bk 1 C126_18
abbrev C126_20 := Ro [Fa 19 5 t1,Ld 20 none t19,Fa 21 5 t3,Sxn 1 t21 t20]
abbrev C126_21 := Sq [1,3] C126_19 C126_20
abbrev C126_22 := Bk 2 C126_21
abbrev C126_23 := Ro [Fa 22 4 t1,Ld 23 none t22,Fa 24 4 t3,Sxn 1 t24 t23]
abbrev C126_24 := Sq [1,3] C126_22 C126_23
abbrev C126_25 := Bk 3 C126_24
abbrev C126_26 := Dr [Fa 25 1 t1,Ld 26 none t25,Fa 27 2 t1,Ld 28 none t27,Fa 29 1 t3,Sxn 1 t29 t26,Fa 30 2 t3,Sxn 1 t30 t28] [[],[0],[],[2],[0,1],[4,1,0,1],[0,1,2,3,4,5],[6,3,5,0,1,2,3,4,5]] [(0,[]),(1,[]),(2,[]),(3,[]),(4,[]),(5,[2,3]),(6,[]),(7,[])]
abbrev C126_27 := Sq [1,3] C126_26 (.exit 0)
abbrev C126_28 := Sq [1,3] C126_25 C126_27
abbrev C126_29 := Bk 4 C126_28
abbrev C126_30 := Dr [Fa 31 1 t1,Ld 32 none t31,Fa 33 4 t1,Ld 34 none t33,Fa 35 1 t3,Sxn 1 t35 t32,Fa 36 4 t3,Sxn 1 t36 t34] [[],[0],[],[2],[0,1],[4,1,0,1],[0,1,2,3,4,5],[6,3,5,0,1,2,3,4,5]] [(0,[]),(1,[]),(2,[]),(3,[]),(4,[]),(5,[2,3]),(6,[]),(7,[])]
abbrev C126_31 := Sq [1,3] C126_30 (.exit 0)
abbrev C126_32 := Sq [1,3] C126_29 C126_31
abbrev C126_33 := Bk 0 C126_32
abbrev C126_34 := Sq [1,3,10] C126_2 C126_33
abbrev C126_35 := Ro [Ld 37 (some 6) t3,Ld 38 (some 6) t1,⟨(some 39),none,.r (.eqa false [.i,.i,.i,.i,.i,.i] t37 t38)⟩,As 2 t39]
abbrev C126_36 := Sq [2] C126_35 .ret
abbrev C126_37 := Sq [1,3] C126_34 C126_36
abbrev C126_38 := Sq [1,3] C126_1 C126_37
abbrev C126_39 := Sq [1] C126_0 C126_38
abbrev C126 := C126_39
abbrev C126r : List RV := [.t 2]
theorem C126ok : Okf Tryz.prog 126 Tryz.f126 C126 C126r := ⟨Tryz.func126, by kernel_rfl, by kernel_rfl, by kernel_rfl⟩

abbrev C127_0 := Ro [Br 1 t0,As 2 kS]
abbrev C127_1 := Ro [Fa 3 0 t1,Ld 4 none t3]
abbrev C127_2 := Ro [Bn 6 .eql t4 (kI 3),As 5 t6]
abbrev C127_3 := Ro [Bn 7 .eql t4 (kI 5),As 5 t7]
abbrev C127_4 := Ro [Bn 8 .eql t4 (kI 6),As 5 t8]
abbrev C127_5 := Cd t5 .skip C127_4
abbrev C127_6 := Sq [1,4,5] C127_3 C127_5
abbrev C127_7 := Cd t5 .skip C127_6
abbrev C127_8 := Sq [1,4,5] C127_2 C127_7
abbrev C127_9 := Ro [Fa 9 1 t1,Ld 10 none t9,Fa 11 2 t1,Ld 12 none t11,⟨(some 13),none,.e (.bsr 2 [.int .i64 0,.int .i64 0] [(0,1,t10),(1,1,t12)])⟩,As 2 t13]
abbrev C127_10 := Sq [2] C127_9 .ret
abbrev C127_11 := Ro [Bn 15 .eql t4 (kI 4),As 14 t15]
abbrev C127_12 := Ro [Fa 16 1 t1,Ld 17 none t16,⟨(some 18),none,.e (.bsr 1 [.int .i64 0] [(0,1,t17)])⟩,As 2 t18]
abbrev C127_13 := Sq [2] C127_12 .ret
abbrev C127_14 := Cd t14 C127_13 .skip
abbrev C127_15 := Sq [1,14] C127_11 C127_14
abbrev C127_16 := Cd t5 C127_10 C127_15
abbrev C127_17 := Sq [1,4,5] C127_8 C127_16
abbrev C127_18 := Bk 0 C127_17
abbrev C127_19 := Sq [1,4] C127_1 C127_18
abbrev C127_20 := Ro [As 2 kS]
abbrev C127_21 := Sq [2] C127_20 .ret
abbrev C127_22 := Sq [] C127_19 C127_21
abbrev C127_23 := Sq [1] C127_0 C127_22
abbrev C127 := C127_23
abbrev C127r : List RV := [.t 2]
theorem C127ok : Okf Tryz.prog 127 Tryz.f127 C127 C127r := ⟨Tryz.func127, by kernel_rfl, by kernel_rfl, by kernel_rfl⟩

abbrev C128_0 := Ro [Br 3 t0,As 6 kF]
abbrev C128_1 := Ro [Mv 7 t1,Bn 8 .geq t7 (kI 0),Mv 9 t8,Mvt 10 9 t1,Mvt 11 9 t2,Bnt 12 9 .lss t10 t11,Pk 13 t9 t12 kF,Mv 14 t13,Mvt 15 14 t1,Fat 16 14 0 t3,Ldt 17 14 none t16,Nct 18 14 t17,Fat 19 14 1 t18,Ldt 20 14 none t19,Lnt 21 14 t20,Bnt 22 14 .lss t15 t21,Pk 23 t14 t22 kF,Mv 24 t23,Fat 25 24 0 t3,Ldt 26 24 none t25,Nct 27 24 t26,Fat 28 24 1 t27,Ldt 29 24 none t28,Mvt 30 24 t1,Ixt 31 24 6 t29 t30,Fat 32 24 0 t31,Ldt 33 24 none t32,Cat 34 24 146 [t33],Pk 35 t24 t34 kF,As 6 t35]
abbrev C128_2 := Sq [6] C128_1 .ret
abbrev C128_3 := Sq [1,2,3] C128_0 C128_2
abbrev C128 := C128_3
abbrev C128r : List RV := [.t 6]
theorem C128ok : Okf Tryz.prog 128 Tryz.f128 C128 C128r := ⟨Tryz.func128, by kernel_rfl, by kernel_rfl, by kernel_rfl⟩

abbrev C129_0 := Ro [As 4 (kI 0)]
abbrev C129_1 := Ro [Mv 6 t0,Ln 7 t6,Mv 8 (kI 0)]
abbrev C129_2 := Ro [Bn 9 .lss t8 t7]
abbrev C129_3 := Cd t9 .skip (.exit 0)
abbrev C129_4 := Ro [Mv 10 t8,As 5 t10]
abbrev C129_5 := Ro [Mv 11 t1,Mv 12 t0,Mv 13 t5,Ix 14 1 t12 t13,Ld 15 none t14,⟨(some 16),none,.e (.callv t11 [t15])⟩]
abbrev C129_6 := Ro [Mv 17 t5,As 4 t17]
abbrev C129_7 := Sq [4] C129_6 .ret
abbrev C129_8 := Cd t16 C129_7 .skip
abbrev C129_9 := Sq [0,1,5,7,8,16] C129_5 C129_8
abbrev C129_10 := Sq [0,1,5,7,8] C129_4 C129_9
abbrev C129_11 := Bk 1 C129_10
abbrev C129_12 := Ro [Bn 18 .add t8 (kI 1),Mv 8 t18]
abbrev C129_13 := Sq [0,1,7,8] C129_11 C129_12
abbrev C129_14 := Sq [0,1,7,8] C129_3 C129_13
abbrev C129_15 := Sq [0,1,7,8,9] C129_2 C129_14
abbrev C129_16 : ACode := .loop C129_15
abbrev C129_17 := Bk 0 C129_16
abbrev C129_18 := Sq [0,1,7,8] C129_1 C129_17
abbrev C129_19 := Ro [As 4 (kI (-1))]
abbrev C129_20 := Sq [4] C129_19 .ret
abbrev C129_21 := Sq [] C129_18 C129_20
abbrev C129_22 := Sq [0,1] C129_0 C129_21
abbrev C129 := C129_22
abbrev C129r : List RV := [.t 4]
theorem C129ok : Okf Tryz.prog 129 Tryz.f129 C129 C129r := ⟨Tryz.func129, by kernel_rfl, by kernel_rfl, by kernel_rfl⟩

abbrev C130_0 := Ro [As 4 kF]
abbrev C130_1 := Ro [Mv 5 t0,Mv 6 t1,Ca 7 147 [t5,t6],Bn 8 .geq t7 (kI 0),As 4 t8]
abbrev C130_2 := Sq [4] C130_1 .ret
abbrev C130_3 := Sq [0,1] C130_0 C130_2
abbrev C130 := C130_3
abbrev C130r : List RV := [.t 4]
theorem C130ok : Okf Tryz.prog 130 Tryz.f130 C130 C130r := ⟨Tryz.func130, by kernel_rfl, by kernel_rfl, by kernel_rfl⟩

abbrev C131_0 := Ro [Br 3 t0,As 4 kF]
abbrev C131_1 := Ro [Ld 5 (some 1) t1,Fa 6 1 t3,Ld 7 none t6,Ld 8 none t2,Ca 9 128 [t5,t7,t8],Un 10 .not t9,As 4 t10]
abbrev C131_2 := Sq [4] C131_1 .ret
abbrev C131_3 := Sq [1,2,3] C131_0 C131_2
abbrev C131 := C131_3
abbrev C131r : List RV := [.t 4]
theorem C131ok : Okf Tryz.prog 131 Tryz.f131 C131 C131r := ⟨Tryz.func131, by kernel_rfl, by kernel_rfl, by kernel_rfl⟩

abbrev C132_0 := Ro [Br 3 t1,As 4 (kI 0)]
abbrev C132_1 := Ro [Mv 14 t0,Fa 15 1 t3,Ld 16 none t15,Ca 17 148 [t14,t16],Mv 13 t17,Ex 18 0 t13,Ex 19 1 t13,As 5 t18,As 6 t19]
abbrev C132_2 := Ro [Mv 21 t0,Fa 22 2 t3,Ld 23 none t22,Ca 24 148 [t21,t23],Mv 20 t24,Ex 25 0 t20,Ex 26 1 t20,As 7 t25,As 8 t26]
abbrev C132_3 := Ro [Fa 27 3 t3,Ld 28 none t27,Cv 29 .i64 t28,Ca 30 149 [t29],As 9 t30]
abbrev C132_4 := Ro [Mv 31 t6,Mv 32 t31,Mvt 33 32 t8,Pk 34 t32 t33 kF]
abbrev C132_5 := Ro [Ld 36 (some 6) t3,Mv 37 t5,Mv 38 t7,Ca 39 150 [t36,t37,t38],Mv 35 t39,Ex 40 0 t35,Ex 41 1 t35,As 10 t40,As 11 t41]
abbrev C132_6 := Ro [Mv 42 t0,Mv 43 t10,⟨(some 44),none,.r (.bld [zi,zi,zi,z4,zi,zi] [(0,1,(kI 2)),(3,1,t43)])⟩,Ca 45 133 [t42,t44],As 4 t45]
abbrev C132_7 := Sq [4] C132_6 .ret
abbrev C132_8 := Sq [0,10] C132_5 C132_7
abbrev C132_9 := Cd t34 C132_8 .skip
abbrev C132_10 := Sq [0,3,5,7,9,34] C132_4 C132_9
abbrev C132_11 := Ro [Mv 46 t0,Mv 47 t9,Fa 48 1 t3,Ld 49 none t48,Fa 50 2 t3,Ld 51 none t50,Ca 52 151 [t46,t47,t49,t51],As 12 t52]
abbrev C132_12 := Ro [Mv 53 t12,Bn 54 .geq t53 (kI 0)]
abbrev C132_13 := Ro [Mv 55 t12,As 4 t55]
abbrev C132_14 := Sq [4] C132_13 .ret
abbrev C132_15 := Cd t54 C132_14 .skip
abbrev C132_16 := Sq [0,3,9,12,54] C132_12 C132_15
abbrev C132_17 := Sq [0,3,9,12] C132_11 C132_16
abbrev C132_18 := Ro [Mv 56 t0,Mv 57 t9,Fa 58 1 t3,Ld 59 none t58,Fa 60 2 t3,Ld 61 none t60,Ca 62 152 [t56,t57,t59,t61]]
abbrev C132_19 := Ro [Mv 63 t0,⟨(some 64),none,.r (.bld [zi,zi,zi,z4,zi,zi] [(0,1,(kI 2))])⟩,Ca 65 133 [t63,t64],As 4 t65]
abbrev C132_20 := Sq [4] C132_19 .ret
abbrev C132_21 := Cd t62 C132_20 .skip
abbrev C132_22 := Sq [0,3,62] C132_18 C132_21
abbrev C132_23 := Ro [Mv 66 t0,Ld 67 (some 6) t3,Ca 68 133 [t66,t67],As 4 t68]
abbrev C132_24 := Sq [4] C132_23 .ret
abbrev C132_25 := Sq [0,3] C132_22 C132_24
abbrev C132_26 := Sq [0,3,9] C132_17 C132_25
abbrev C132_27 := Sq [0,3,9] C132_10 C132_26
abbrev C132_28 := Sq [0,3,5,6,7,8,9] C132_3 C132_27
abbrev C132_29 := Sq [0,3,5,6,7,8] C132_2 C132_28
abbrev C132_30 := Sq [0,3,5,6] C132_1 C132_29
abbrev C132_31 := Sq [0,3] C132_0 C132_30
abbrev C132 := C132_31
abbrev C132r : List RV := [.t 4]
theorem C132ok : Okf Tryz.prog 132 Tryz.f132 C132 C132r := ⟨Tryz.func132, by kernel_rfl, by kernel_rfl, by kernel_rfl⟩

abbrev C133_0 := Ro [Br 3 t1,As 4 (kI 0)]
abbrev C133_1 := Dr [Mv 5 t0,Nc 6 t5,Fa 7 0 t6,Ld 8 none t7,Mv 9 t0,Nc 10 t9,Fa 11 0 t10,Ld 12 none t11,Nc 13 t12,Fa 14 1 t13,Ld 15 none t14,Ld 16 (some 6) t3,⟨(some 17),none,.e (.bsr 1 [zi,zi,zi,z4,zi,zi] [(0,6,t16)])⟩,Ap 18 6 48 t15 t17,Nc 19 t8,Fa 20 1 t19,Sxn 1 t20 t18] [[],[0],[1],[2],[],[4],[5],[6],[7],[8],[9],[],[11],[10,12],[3,0,1,2,3,4,5,6,7,8,9,10,11,12,13],[14,0,1,2,3,4,5,6,7,8,9,10,11,12,13],[15,13,13,0,1,2,3,4,5,6,7,8,9,10,11,12,13]] [(0,[]),(1,[]),(2,[]),(3,[]),(4,[]),(5,[]),(6,[]),(7,[]),(8,[]),(9,[]),(10,[]),(11,[]),(12,[0,1,2,3,4,5,6,7,8,9,10]),(13,[0,1,2,3]),(14,[]),(15,[]),(16,[])]
abbrev C133_2 := Ro [Mv 21 t0,Nc 22 t21,Fa 23 0 t22,Ld 24 none t23,Nc 25 t24,Fa 26 1 t25,Ld 27 none t26,Ln 28 t27,Bn 29 .sub t28 (kI 1),As 4 t29]
abbrev C133_3 := Sq [4] C133_2 .ret
abbrev C133_4 := Sq [0] C133_1 C133_3
abbrev C133_5 := Sq [0,3] C133_0 C133_4
abbrev C133 := C133_5
abbrev C133r : List RV := [.t 4]
theorem C133ok : Okf Tryz.prog 133 Tryz.f133 C133 C133r := ⟨Tryz.func133, by kernel_rfl, by kernel_rfl, by kernel_rfl⟩

abbrev C134_0 := Ro [Br 3 t1,As 4 (kI 0)]
abbrev C134_1 := Ro [As 5 (kI 0),As 6 (kI (-1))]
abbrev C134_2 := Ro [Fa 8 0 t3,Ld 9 none t8,Bn 10 .eql t9 (kI 4)]
abbrev C134_3 := Ro [Mv 11 t0,Nc 12 t11,Fa 13 2 t12,Ld 14 none t13,As 5 t14]
abbrev C134_4 := Cd t10 C134_3 .skip
abbrev C134_5 := Sq [0,3,5,6,10] C134_2 C134_4
abbrev C134_6 := Ro [Mv 15 t0,Nc 16 t15,Fa 17 0 t16,Ld 18 none t17,Nc 19 t18,Fa 20 1 t19,Ld 21 none t20,Ln 22 t21,Mv 23 (kI 0)]
abbrev C134_7 := Ro [Bn 24 .lss t23 t22]
abbrev C134_8 := Cd t24 .skip (.exit 0)
abbrev C134_9 := Ro [Mv 25 t23,As 7 t25]
abbrev C134_10 := Dr [Mv 26 t7,Mv 27 t5,Bn 28 .lss t26 t27,Mv 29 t28,Mvf 30 29 t0,Ncf 31 29 t30,Faf 32 29 0 t31,Ldf 33 29 none t32,Ncf 34 29 t33,Faf 35 29 1 t34,Ldf 36 29 none t35,Mvf 37 29 t7,Ixf 38 29 6 t36 t37,Ldf 39 29 (some 6) t38,Ldf 40 29 (some 6) t3,Caf 41 29 153 [t39,t40],Unf 42 29 .not t41,Pk 43 t29 kT t42] [[],[],[0,1],[2],[3],[4,3],[5,3],[6,3],[7,3],[8,3],[9,3],[3],[10,11,3],[12,3],[3],[13,14,3,3],[15,3],[3,16]] [(0,[]),(1,[]),(2,[]),(3,[]),(4,[]),(5,[]),(6,[]),(7,[]),(8,[]),(9,[]),(10,[]),(11,[]),(12,[]),(13,[]),(14,[]),(15,[]),(16,[]),(17,[])]
abbrev C134_11 := Cd t43 (.exit 1) .skip
abbrev C134_12 := Sq [0,3,5,6,7,22,23,43] C134_10 C134_11
abbrev C134_13 := Ro [Mv 44 t7,As 6 t44]
abbrev C134_14 := Sq [6] C134_13 (.exit 0)
abbrev C134_15 := Sq [7] C134_12 C134_14
abbrev C134_16 := Sq [0,3,5,6,7,22,23] C134_9 C134_15
abbrev C134_17 := Bk 1 C134_16
abbrev C134_18 := Ro [Bn 45 .add t23 (kI 1),Mv 23 t45]
abbrev C134_19 := Sq [0,3,5,6,22,23] C134_17 C134_18
abbrev C134_20 := Sq [0,3,5,6,22,23] C134_8 C134_19
abbrev C134_21 := Sq [0,3,5,6,22,23,24] C134_7 C134_20
abbrev C134_22 : ACode := .loop C134_21
abbrev C134_23 := Bk 0 C134_22
abbrev C134_24 := Sq [0,3,5,6,22,23] C134_6 C134_23
abbrev C134_25 := Ro [Mv 46 t6,As 4 t46]
abbrev C134_26 := Sq [4] C134_25 .ret
abbrev C134_27 := Sq [6] C134_24 C134_26
abbrev C134_28 := Sq [0,3,5,6] .lab C134_27
abbrev C134_29 := Sq [0,3,5,6] C134_5 C134_28
abbrev C134_30 := Sq [0,3,5,6] C134_1 C134_29
abbrev C134_31 : ACode := .scp C134_30
abbrev C134_32 := Sq [0,3] C134_0 C134_31
abbrev C134 := C134_32
abbrev C134r : List RV := [.t 4]
theorem C134ok : Okf Tryz.prog 134 Tryz.f134 C134 C134r := ⟨Tryz.func134, by kernel_rfl, by kernel_rfl, by kernel_rfl⟩

abbrev C135_0 := Ro [Ld 3 none t1,Mv 4 t0,Ix 5 1 t3 t4,Sxn 1 t5 (kI 1)]
abbrev C135 := C135_0
abbrev C135r : List RV := []
theorem C135ok : Okf Tryz.prog 135 Tryz.f135 C135 C135r := ⟨Tryz.func135, by kernel_rfl, by kernel_rfl, by kernel_rfl⟩

abbrev C136_0 := Ro [⟨(some 3),none,.e (.box t1)⟩,Al 4 [zi,zi,zi,z4,zi,zi]]
abbrev C136_1 := Ro [Fa 5 0 t3,Ld 6 none t5]
abbrev C136_2 := Ro [Bn 8 .eql t6 (kI 3),As 7 t8]
abbrev C136_3 := Ro [Bn 9 .eql t6 (kI 5),As 7 t9]
abbrev C136_4 := Ro [Bn 10 .eql t6 (kI 6),As 7 t10]
abbrev C136_5 := Cd t7 .skip C136_4
abbrev C136_6 := Sq [0,3,4,6,7] C136_3 C136_5
abbrev C136_7 := Cd t7 .skip C136_6
abbrev C136_8 := Sq [0,3,4,6,7] C136_2 C136_7
abbrev C136_9 := Cd t7 (.exit 1) .skip
abbrev C136_10 := Sq [0,3,4,6,7] C136_8 C136_9
abbrev C136_11 := Ro [Bn 12 .eql t6 (kI 4),As 11 t12]
abbrev C136_12 := Cd t11 (.exit 2) .skip
abbrev C136_13 := Sq [0,3,4,11] C136_11 C136_12
abbrev C136_14 := Sq [0,3,4,6] C136_10 C136_13
abbrev C136_15 := Sq [3,4] C136_14 (.exit 0)
abbrev C136_16 := Bk 1 C136_15
abbrev C136_17 := Dr [Mv 13 t0,Nc 14 t13,Fa 15 1 t14,Ld 16 none t15,Fa 17 2 t3,Ld 18 none t17,Ix 19 1 t16 t18,Ld 20 none t19,Fa 21 2 t3,Sxn 1 t21 t20] [[],[0],[1],[2],[],[4],[3,5],[6],[0,1,2,3,4,5,6,7],[8,7,0,1,2,3,4,5,6,7]] [(0,[]),(1,[]),(2,[]),(3,[]),(4,[]),(5,[]),(6,[]),(7,[]),(8,[]),(9,[])]
abbrev C136_18 := Sq [0,3,4] C136_16 C136_17
abbrev C136_19 := Bk 2 C136_18
abbrev C136_20 := Dr [Mv 22 t0,Nc 23 t22,Fa 24 1 t23,Ld 25 none t24,Fa 26 1 t3,Ld 27 none t26,Ix 28 1 t25 t27,Ld 29 none t28,Fa 30 1 t3,Sxn 1 t30 t29] [[],[0],[1],[2],[],[4],[3,5],[6],[0,1,2,3,4,5,6,7],[8,7,0,1,2,3,4,5,6,7]] [(0,[]),(1,[]),(2,[]),(3,[]),(4,[]),(5,[]),(6,[]),(7,[]),(8,[]),(9,[])]
abbrev C136_21 := Sq [3,4] C136_20 (.exit 0)
abbrev C136_22 := Sq [0,3,4] C136_19 C136_21
abbrev C136_23 := Bk 0 C136_22
abbrev C136_24 := Sq [0,3,4,6] C136_1 C136_23
abbrev C136_25 := Ro [Ld 31 (some 6) t3,Sxn 6 t4 t31]
abbrev C136_26 := Sq [4] C136_25 .ret
abbrev C136_27 := Sq [3,4] C136_24 C136_26
abbrev C136_28 := Sq [0,3,4] C136_0 C136_27
abbrev C136 := C136_28
abbrev C136r : List RV := [.c 4 (some 6)]
theorem C136ok : Okf Tryz.prog 136 Tryz.f136 C136 C136r := ⟨Tryz.func136, by kernel_rfl, by kernel_rfl, by kernel_rfl⟩

abbrev C137_0 := Ro [Br 3 t1,As 4 (kI 0)]
abbrev C137_1 : ACode := .dregt [Mv 14 t0,Nc 15 t14,Fa 16 0 t15,Ld 17 none t16,Nc 18 t17,Fa 19 1 t18,Ld 20 none t19,Fa 21 1 t3,Ld 22 none t21,Ix 23 6 t20 t22,Ld 24 (some 6) t23,Mv 25 t0,Nc 26 t25,Fa 27 0 t26,Ld 28 none t27,Nc 29 t28,Fa 30 1 t29,Ld 31 none t30,Fa 32 2 t3,Ld 33 none t32,Ix 34 6 t31 t33,Ld 35 (some 6) t34,Al 5 [zi,zi,zi,z4,zi,zi],Al 6 [zi,zi,zi,z4,zi,zi],Sxn 6 t5 t24,Sxn 6 t6 t35] [[],[0],[1],[2],[3],[4],[5],[],[7],[6,8],[9],[],[11],[12],[13],[14],[15],[16],[],[18],[17,19],[20],[],[],[22,10,0,1,2,3,4,5,6,7,8,9,10,22,23],[23,21,24,0,1,2,3,4,5,6,7,8,9,10,11,12,13,14,15,16,17,18,19,20,21,22,23,24]] (.r 0 (.r 1 (.r 2 (.r 3 (.r 4 (.r 5 (.r 6 (.r 7 (.r 8 (.r 9 (.r 10 (.r 11 (.r 12 (.r 13 (.r 14 (.r 15 (.r 16 (.r 17 (.r 18 (.r 19 (.r 20 (.r 21 (.e 22 [0,1,2,3,4,5,6,7,8,9,10,11,12,13,14,15,16,17,18,19,20,21] (.e 23 [0,1,2,3,4,5,6,7,8,9,10,11,12,13,14,15,16,17,18,19,20,21] (.e 24 [11,12,13,14,15,16,17,18,19,20,21] (.e 25 [] .nil .nil) .nil) .nil) (.e 23 [0,1,2,3,4,5,6,7,8,9,10,11,12,13,14,15,16,17,18,19,20,21] (.e 22 [0,1,2,3,4,5,6,7,8,9,10,11,12,13,14,15,16,17,18,19,20,21] (.e 24 [11,12,13,14,15,16,17,18,19,20,21] (.e 25 [] .nil .nil) .nil) .nil) .nil))))))))))))))))))))))))
abbrev C137_2 := Ro [Fa 36 3 t3,Ld 37 none t36,Cv 38 .i64 t37,As 7 t38]
abbrev C137_3 := Ro [Fa 39 0 t5,Ld 40 none t39,Bn 41 .eql t40 (kI 2),Mv 42 t41,Fat 43 42 0 t6,Ldt 44 42 none t43,Bnt 45 42 .eql t44 (kI 2),Pk 46 t42 t45 kF]
abbrev C137_4 := Ro [Mv 48 t7,Fa 49 3 t5,Ld 50 none t49,Fa 51 3 t6,Ld 52 none t51,Ca 53 154 [t48,t50,t52],Mv 47 t53,Ex 54 0 t47,Ex 55 1 t47,As 8 t54,As 9 t55]
abbrev C137_5 := Ro [Mv 56 t8,Ca 57 155 [t56],As 4 t57]
abbrev C137_6 := Sq [4] C137_5 .ret
abbrev C137_7 := Sq [8] C137_4 C137_6
abbrev C137_8 := Cd t46 C137_7 .skip
abbrev C137_9 := Sq [0,3,5,6,7,46] C137_3 C137_8
abbrev C137_10 := Ro [Fa 58 1 t3,Ld 59 none t58,Fa 60 2 t3,Ld 61 none t60,Bn 62 .eql t59 t61]
abbrev C137_11 := Ro [Mv 64 t7,Ca 65 154 [t64,(kU 0),(kU 0)],Mv 63 t65,Ex 66 0 t63,Ex 67 1 t63,As 10 t66,As 11 t67]
abbrev C137_12 := Ro [Mv 68 t10,Ca 69 155 [t68],As 4 t69]
abbrev C137_13 := Sq [4] C137_12 .ret
abbrev C137_14 := Sq [10] C137_11 C137_13
abbrev C137_15 := Cd t62 C137_14 .skip
abbrev C137_16 := Sq [0,3,7,62] C137_10 C137_15
abbrev C137_17 := Ro [Mv 70 t0,Nc 71 t70,Fa 72 0 t71,Ld 73 none t72,Nc 74 t73,Fa 75 1 t74,Ld 76 none t75,Ln 77 t76,Mv 78 (kI 0)]
abbrev C137_18 := Ro [Bn 79 .lss t78 t77]
abbrev C137_19 := Cd t79 .skip (.exit 0)
abbrev C137_20 := Ro [Ix 80 6 t76 t78,Ld 81 (some 6) t80,Al 13 [zi,zi,zi,z4,zi,zi],Sxn 6 t13 t81]
abbrev C137_21 := Ro [Fa 82 0 t13,Ld 83 none t82,Bn 84 .neq t83 (kI 6),Mv 85 t84,Faf 86 85 1 t13,Ldf 87 85 none t86,Faf 88 85 1 t3,Ldf 89 85 none t88,Bnf 90 85 .neq t87 t89,Pk 91 t85 kT t90,Mv 92 t91,Faf 93 92 2 t13,Ldf 94 92 none t93,Faf 95 92 2 t3,Ldf 96 92 none t95,Bnf 97 92 .neq t94 t96,Pk 98 t92 kT t97]
abbrev C137_22 := Cd t98 (.exit 1) .skip
abbrev C137_23 := Sq [3,7,13,76,77,78,98] C137_21 C137_22
abbrev C137_24 := Ro [Fa 99 3 t13,Ld 100 none t99,Cv 101 .i64 t100]
abbrev C137_25 := Ro [Mv 103 t7,Bn 104 .eql t101 t103,As 102 t104]
abbrev C137_26 := Ro [As 4 (kI 1)]
abbrev C137_27 := Sq [4] C137_26 .ret
abbrev C137_28 := Ro [Mv 106 t7,Ca 107 156 [t106],Bn 108 .eql t101 t107,As 105 t108]
abbrev C137_29 := Ro [As 4 (kI 2)]
abbrev C137_30 := Sq [4] C137_29 .ret
abbrev C137_31 := Cd t105 C137_30 .skip
abbrev C137_32 := Sq [3,7,76,77,78,105] C137_28 C137_31
abbrev C137_33 := Cd t102 C137_27 C137_32
abbrev C137_34 := Sq [3,7,76,77,78,101,102] C137_25 C137_33
abbrev C137_35 := Bk 2 C137_34
abbrev C137_36 := Sq [3,7,76,77,78,101] C137_24 C137_35
abbrev C137_37 := Sq [3,7,13,76,77,78] C137_23 C137_36
abbrev C137_38 : ACode := .fz 13 C137_37
abbrev C137_39 := Sq [3,7,13,76,77,78] C137_20 C137_38
abbrev C137_40 := Bk 1 C137_39
abbrev C137_41 := Ro [Bn 109 .add t78 (kI 1),Mv 78 t109]
abbrev C137_42 := Sq [3,7,76,77,78] C137_40 C137_41
abbrev C137_43 := Sq [3,7,76,77,78] C137_19 C137_42
abbrev C137_44 := Sq [3,7,76,77,78,79] C137_18 C137_43
abbrev C137_45 : ACode := .loop C137_44
abbrev C137_46 := Bk 0 C137_45
abbrev C137_47 := Sq [3,7,76,77,78] C137_17 C137_46
abbrev C137_48 := Ro [As 4 (kI 0)]
abbrev C137_49 := Sq [4] C137_48 .ret
abbrev C137_50 := Sq [] C137_47 C137_49
abbrev C137_51 := Sq [0,3,7] C137_16 C137_50
abbrev C137_52 := Sq [0,3,7] C137_9 C137_51
abbrev C137_53 := Sq [0,3,5,6,7] C137_2 C137_52
abbrev C137_54 := Sq [0,3,5,6] C137_1 C137_53
abbrev C137_55 := Sq [0,3] C137_0 C137_54
abbrev C137 := C137_55
abbrev C137r : List RV := [.t 4]
theorem C137ok : Okf Tryz.prog 137 Tryz.f137 C137 C137r := ⟨Tryz.func137, by kernel_rfl, by kernel_rfl, by kernel_rfl⟩

abbrev C138_0 := Ro [Fa 7 0 t1,Ld 8 none t7,Mv 9 t0,Ix 10 1 t8 t9,Ld 11 none t10]
abbrev C138_1 := Cd t11 .ret .skip
abbrev C138_2 := Sq [0,1,2,3,11] C138_0 C138_1
abbrev C138_3 := Ro [Fa 12 0 t1,Ld 13 none t12,Mv 14 t0,Ix 15 1 t13 t14,Sxn 1 t15 kT]
abbrev C138_4 := Ro [Ld 16 none t2,Nc 17 t16,Fa 18 1 t17,Ld 19 none t18,Mv 20 t0,Ix 21 6 t19 t20,Ld 22 (some 6) t21,Ca 23 127 [t22],Ln 24 t23,Mv 25 (kI 0)]
abbrev C138_5 := Ro [Bn 26 .lss t25 t24]
abbrev C138_6 := Cd t26 .skip (.exit 0)
abbrev C138_7 := Ro [Ix 27 1 t23 t25,Ld 28 none t27,As 6 t28]
abbrev C138_8 := Ro [Ld 29 none t3,Mv 30 t6,⟨(some 31),none,.e (.callv t29 [t30])⟩]
abbrev C138_9 := Sq [3,6,23,24,25] C138_7 C138_8
abbrev C138_10 := Bk 1 C138_9
abbrev C138_11 := Ro [Bn 32 .add t25 (kI 1),Mv 25 t32]
abbrev C138_12 := Sq [3,23,24,25] C138_10 C138_11
abbrev C138_13 := Sq [3,23,24,25] C138_6 C138_12
abbrev C138_14 := Sq [3,23,24,25,26] C138_5 C138_13
abbrev C138_15 : ACode := .loop C138_14
abbrev C138_16 := Bk 0 C138_15
abbrev C138_17 := Sq [3,23,24,25] C138_4 C138_16
abbrev C138_18 := Sq [0,2,3] C138_3 C138_17
abbrev C138_19 := Sq [0,1,2,3] C138_2 C138_18
abbrev C138 := C138_19
abbrev C138r : List RV := []
theorem C138ok : Okf Tryz.prog 138 Tryz.f138 C138 C138r := ⟨Tryz.func138, by kernel_rfl, by kernel_rfl, by kernel_rfl⟩

abbrev C139_0 := Ro [Fa 8 1 t1,Ld 9 none t8,Mv 10 t0,Ix 11 1 t9 t10,Sxn 1 t11 kT]
abbrev C139_1 := Ro [Ld 12 none t2,Nc 13 t12,Fa 14 2 t13,Ld 15 none t14,Mv 16 t0,Ix 17 5 t15 t16,Ld 18 (some 5) t17,Al 5 [zi,z4,zi,zi,.nils],Sxn 5 t5 t18]
abbrev C139_2 := Ro [Fa 19 2 t5,Ld 20 none t19,Bn 21 .neq t20 (kI (-1))]
abbrev C139_3 := Ro [Ld 22 none t3,Fa 23 2 t5,Ld 24 none t23,⟨(some 25),none,.e (.callv t22 [t24])⟩]
abbrev C139_4 := Cd t21 C139_3 .skip
abbrev C139_5 := Sq [2,3,5,21] C139_2 C139_4
abbrev C139_6 := Ro [Fa 26 4 t5,Ld 27 none t26,Ln 28 t27,Mv 29 (kI 0)]
abbrev C139_7 := Ro [Bn 30 .lss t29 t28]
abbrev C139_8 := Cd t30 .skip (.exit 0)
abbrev C139_9 := Ro [Ix 31 2 t27 t29,Ld 32 (some 2) t31,Al 7 [.int .i64 0,.int .i64 0],Sxn 2 t7 t32]
abbrev C139_10 := Ro [Ld 33 none t2,Ld 34 (some 2) t7,Ca 35 140 [t33,t34],Un 36 .not t35]
abbrev C139_11 := Ro [Ld 37 none t3,Fa 38 1 t7,Ld 39 none t38,⟨(some 40),none,.e (.callv t37 [t39])⟩]
abbrev C139_12 := Cd t36 C139_11 .skip
abbrev C139_13 := Sq [2,3,7,27,28,29,36] C139_10 C139_12
abbrev C139_14 : ACode := .fz 7 C139_13
abbrev C139_15 := Sq [2,3,7,27,28,29] C139_9 C139_14
abbrev C139_16 := Bk 1 C139_15
abbrev C139_17 := Ro [Bn 41 .add t29 (kI 1),Mv 29 t41]
abbrev C139_18 := Sq [2,3,27,28,29] C139_16 C139_17
abbrev C139_19 := Sq [2,3,27,28,29] C139_8 C139_18
abbrev C139_20 := Sq [2,3,27,28,29,30] C139_7 C139_19
abbrev C139_21 : ACode := .loop C139_20
abbrev C139_22 := Bk 0 C139_21
abbrev C139_23 := Sq [2,3,27,28,29] C139_6 C139_22
abbrev C139_24 := Sq [2,3,5] C139_5 C139_23
abbrev C139_25 : ACode := .fz 5 C139_24
abbrev C139_26 := Sq [2,3,5] C139_1 C139_25
abbrev C139_27 := Sq [0,2,3] C139_0 C139_26
abbrev C139 := C139_27
abbrev C139r : List RV := []
theorem C139ok : Okf Tryz.prog 139 Tryz.f139 C139 C139r := ⟨Tryz.func139, by kernel_rfl, by kernel_rfl, by kernel_rfl⟩

abbrev C140_0 := Ro [Br 3 t1,As 4 kF]
abbrev C140_1 := Dr [Mv 6 t0,Nc 7 t6,Fa 8 1 t7,Ld 9 none t8,Fa 10 1 t3,Ld 11 none t10,Ix 12 6 t9 t11,Ld 13 (some 6) t12,Al 5 [zi,zi,zi,z4,zi,zi],Sxn 6 t5 t13] [[],[0],[1],[2],[],[4],[3,5],[6],[],[8,7,0,1,2,3,4,5,6,7,8]] [(0,[]),(1,[]),(2,[]),(3,[]),(4,[]),(5,[]),(6,[]),(7,[]),(8,[0,1,2,3,4,5,6,7]),(9,[])]
abbrev C140_2 := Ro [Fa 14 0 t5,Ld 15 none t14,Bn 16 .eql t15 (kI 1),Mv 17 t16,Fat 18 17 3 t5,Ldt 19 17 none t18,Cvt 20 17 .i64 t19,Fat 21 17 0 t3,Ldt 22 17 none t21,Bnt 23 17 .eql t20 t22,Pk 24 t17 t23 kF,As 4 t24]
abbrev C140_3 := Sq [4] C140_2 .ret
abbrev C140_4 := Sq [3,5] C140_1 C140_3
abbrev C140_5 := Sq [0,3] C140_0 C140_4
abbrev C140 := C140_5
abbrev C140r : List RV := [.t 4]
theorem C140ok : Okf Tryz.prog 140 Tryz.f140 C140 C140r := ⟨Tryz.func140, by kernel_rfl, by kernel_rfl, by kernel_rfl⟩

abbrev C142_0 := Ro [As 6 (kU 0)]
abbrev C142_1 := Dr [Mv 7 t0,Cv 8 .u64 t7,Mv 9 t1,Ca 10 93 [t9],Bn 11 .quo t8 t10,Mv 12 t2,Ca 13 93 [t12],Bn 14 .rem t11 t13,Cv 15 .u32 t14,As 6 t15] [[],[0],[],[2],[1,3],[],[5,3],[4,6],[7],[8,6,0,1,2,3,4,5,6,7,8]] [(0,[]),(1,[]),(2,[]),(5,[]),(3,[0,1,5]),(4,[]),(6,[0,1,4]),(7,[]),(8,[]),(9,[])]
abbrev C142_2 := Sq [6] C142_1 .ret
abbrev C142_3 := Sq [0,1,2] C142_0 C142_2
abbrev C142 := C142_3
abbrev C142r : List RV := [.t 6]
theorem C142ok : Okf Tryz.prog 142 Tryz.f142 C142 C142r := ⟨Tryz.func142, by kernel_rfl, by kernel_rfl, by kernel_rfl⟩

abbrev C143_0 := Ro [As 2 kF]
abbrev C143_1 := Ro [Mv 3 t0,Ca 4 157 [t3],Mv 5 t4,Mvf 6 5 t0,Caf 7 5 158 [t6],Pk 8 t5 kT t7,As 2 t8]
abbrev C143_2 := Sq [2] C143_1 .ret
abbrev C143_3 := Sq [0] C143_0 C143_2
abbrev C143 := C143_3
abbrev C143r : List RV := [.t 2]
theorem C143ok : Okf Tryz.prog 143 Tryz.f143 C143 C143r := ⟨Tryz.func143, by kernel_rfl, by kernel_rfl, by kernel_rfl⟩

abbrev C144_0 := Ro [As 2 (kI 0)]
abbrev C144_1 := Ro [Mv 3 t0]
abbrev C144_2 := Ro [Bn 5 .eql t3 (kI 11),As 4 t5]
abbrev C144_3 := Ro [Bn 6 .eql t3 (kI 14),As 4 t6]
abbrev C144_4 := Cd t4 .skip C144_3
abbrev C144_5 := Sq [3,4] C144_2 C144_4
abbrev C144_6 := Ro [As 2 (kI 1)]
abbrev C144_7 := Sq [2] C144_6 .ret
abbrev C144_8 := Ro [Bn 8 .eql t3 (kI 12),As 7 t8]
abbrev C144_9 := Ro [Bn 9 .eql t3 (kI 15),As 7 t9]
abbrev C144_10 := Cd t7 .skip C144_9
abbrev C144_11 := Sq [3,7] C144_8 C144_10
abbrev C144_12 := Ro [As 2 (kI 2)]
abbrev C144_13 := Sq [2] C144_12 .ret
abbrev C144_14 := Ro [Bn 11 .eql t3 (kI 13),As 10 t11]
abbrev C144_15 := Ro [As 2 (kI 4)]
abbrev C144_16 := Sq [2] C144_15 .ret
abbrev C144_17 := Cd t10 C144_16 .skip
abbrev C144_18 := Sq [10] C144_14 C144_17
abbrev C144_19 := Cd t7 C144_13 C144_18
abbrev C144_20 := Sq [3,7] C144_11 C144_19
abbrev C144_21 := Cd t4 C144_7 C144_20
abbrev C144_22 := Sq [3,4] C144_5 C144_21
abbrev C144_23 := Bk 0 C144_22
abbrev C144_24 := Sq [3] C144_1 C144_23
abbrev C144_25 := Ro [As 2 (kI 0)]
abbrev C144_26 := Sq [2] C144_25 .ret
abbrev C144_27 := Sq [] C144_24 C144_26
abbrev C144_28 := Sq [0] C144_0 C144_27
abbrev C144 := C144_28
abbrev C144r : List RV := [.t 2]
theorem C144ok : Okf Tryz.prog 144 Tryz.f144 C144 C144r := ⟨Tryz.func144, by kernel_rfl, by kernel_rfl, by kernel_rfl⟩

abbrev C145_0 := Ro [As 2 (kI 0)]
abbrev C145_1 := Ro [Mv 3 t0]
abbrev C145_2 := Ro [Bn 5 .eql t3 (kI 16),As 4 t5]
abbrev C145_3 := Ro [As 2 (kI 1)]
abbrev C145_4 := Sq [2] C145_3 .ret
abbrev C145_5 := Ro [Bn 7 .eql t3 (kI 17),As 6 t7]
abbrev C145_6 := Ro [As 2 (kI 2)]
abbrev C145_7 := Sq [2] C145_6 .ret
abbrev C145_8 := Ro [Bn 9 .eql t3 (kI 18),As 8 t9]
abbrev C145_9 := Ro [As 2 (kI 4)]
abbrev C145_10 := Sq [2] C145_9 .ret
abbrev C145_11 := Cd t8 C145_10 .skip
abbrev C145_12 := Sq [8] C145_8 C145_11
abbrev C145_13 := Cd t6 C145_7 C145_12
abbrev C145_14 := Sq [3,6] C145_5 C145_13
abbrev C145_15 := Cd t4 C145_4 C145_14
abbrev C145_16 := Sq [3,4] C145_2 C145_15
abbrev C145_17 := Bk 0 C145_16
abbrev C145_18 := Sq [3] C145_1 C145_17
abbrev C145_19 := Ro [As 2 (kI 0)]
abbrev C145_20 := Sq [2] C145_19 .ret
abbrev C145_21 := Sq [] C145_18 C145_20
abbrev C145_22 := Sq [0] C145_0 C145_21
abbrev C145 := C145_22
abbrev C145r : List RV := [.t 2]
theorem C145ok : Okf Tryz.prog 145 Tryz.f145 C145 C145r := ⟨Tryz.func145, by kernel_rfl, by kernel_rfl, by kernel_rfl⟩

abbrev C146_0 := Ro [As 2 kF]
abbrev C146_1 := Ro [Mv 3 t0,Bn 4 .geq t3 (kI 1),Mv 5 t4,Mvt 6 5 t0,Bnt 7 5 .leq t6 (kI 4),Pk 8 t5 t7 kF,As 2 t8]
abbrev C146_2 := Sq [2] C146_1 .ret
abbrev C146_3 := Sq [0] C146_0 C146_2
abbrev C146 := C146_3
abbrev C146r : List RV := [.t 2]
theorem C146ok : Okf Tryz.prog 146 Tryz.f146 C146 C146r := ⟨Tryz.func146, by kernel_rfl, by kernel_rfl, by kernel_rfl⟩

abbrev C147_0 := Ro [As 4 (kI 0)]
abbrev C147_1 := Ro [Mv 6 t0,Ln 7 t6,Mv 8 (kI 0)]
abbrev C147_2 := Ro [Bn 9 .lss t8 t7]
abbrev C147_3 := Cd t9 .skip (.exit 0)
abbrev C147_4 := Ro [Mv 10 t8,As 5 t10]
abbrev C147_5 := Ro [Mv 11 t1,Mv 12 t0,Mv 13 t5,Ix 14 2 t12 t13,Ld 15 (some 2) t14,⟨(some 16),none,.e (.callv t11 [t15])⟩]
abbrev C147_6 := Ro [Mv 17 t5,As 4 t17]
abbrev C147_7 := Sq [4] C147_6 .ret
abbrev C147_8 := Cd t16 C147_7 .skip
abbrev C147_9 := Sq [0,1,5,7,8,16] C147_5 C147_8
abbrev C147_10 := Sq [0,1,5,7,8] C147_4 C147_9
abbrev C147_11 := Bk 1 C147_10
abbrev C147_12 := Ro [Bn 18 .add t8 (kI 1),Mv 8 t18]
abbrev C147_13 := Sq [0,1,7,8] C147_11 C147_12
abbrev C147_14 := Sq [0,1,7,8] C147_3 C147_13
abbrev C147_15 := Sq [0,1,7,8,9] C147_2 C147_14
abbrev C147_16 : ACode := .loop C147_15
abbrev C147_17 := Bk 0 C147_16
abbrev C147_18 := Sq [0,1,7,8] C147_1 C147_17
abbrev C147_19 := Ro [As 4 (kI (-1))]
abbrev C147_20 := Sq [4] C147_19 .ret
abbrev C147_21 := Sq [] C147_18 C147_20
abbrev C147_22 := Sq [0,1] C147_0 C147_21
abbrev C147 := C147_22
abbrev C147r : List RV := [.t 4]
theorem C147ok : Okf Tryz.prog 147 Tryz.f147 C147 C147r := ⟨Tryz.func147, by kernel_rfl, by kernel_rfl, by kernel_rfl⟩

abbrev C148_0 := Ro [As 4 (kU 0),As 5 kF]
abbrev C148_1 := Ro [Mv 7 t0,Nc 8 t7,Fa 9 0 t8,Ld 10 none t9,Nc 11 t10,Fa 12 1 t11,Ld 13 none t12,Mv 14 t1,Ix 15 6 t13 t14,Ld 16 (some 6) t15,Al 6 [zi,zi,zi,z4,zi,zi],Sxn 6 t6 t16]
abbrev C148_2 := Dr [Fa 17 3 t6,Ld 18 none t17,Fa 19 0 t6,Ld 20 none t19,Bn 21 .eql t20 (kI 2),As 4 t18,As 5 t21] [[],[0],[],[2],[3],[1,0,1],[4,5,0,1,2,3,4,5]] [(0,[]),(1,[]),(2,[]),(3,[]),(4,[]),(5,[2,3,4]),(6,[])]
abbrev C148_3 := Sq [4,5] C148_2 .ret
abbrev C148_4 : ACode := .fz 6 C148_3
abbrev C148_5 := Sq [6] C148_1 C148_4
abbrev C148_6 := Sq [0,1] C148_0 C148_5
abbrev C148 := C148_6
abbrev C148r : List RV := [.t 4,.t 5]
theorem C148ok : Okf Tryz.prog 148 Tryz.f148 C148 C148r := ⟨Tryz.func148, by kernel_rfl, by kernel_rfl, by kernel_rfl⟩

abbrev C149_0 := Ro [As 2 (kI 0)]
abbrev C149_1 := Ro [Mv 4 t0,Ca 5 159 [t4],As 3 t5]
abbrev C149_2 := Ro [Mv 6 t3,Bn 7 .neq t6 (kI 0)]
abbrev C149_3 := Ro [Mv 8 t3,As 2 t8]
abbrev C149_4 := Sq [2] C149_3 .ret
abbrev C149_5 := Cd t7 C149_4 .skip
abbrev C149_6 := Sq [0,3,7] C149_2 C149_5
abbrev C149_7 := Sq [0,3] C149_1 C149_6
abbrev C149_8 := Ro [Mv 9 t0,As 2 t9]
abbrev C149_9 := Sq [2] C149_8 .ret
abbrev C149_10 := Sq [0] C149_7 C149_9
abbrev C149_11 := Sq [0] C149_0 C149_10
abbrev C149 := C149_11
abbrev C149r : List RV := [.t 2]
theorem C149ok : Okf Tryz.prog 149 Tryz.f149 C149 C149r := ⟨Tryz.func149, by kernel_rfl, by kernel_rfl, by kernel_rfl⟩

abbrev C150_0 := Ro [Br 3 t0,As 6 (kU 0),As 7 kF]
abbrev C150_1 := Ro [Fa 11 0 t3,Ld 12 none t11,Bn 13 .eql t12 (kI 2),As 10 t13]
abbrev C150_2 := Ro [Fa 14 3 t3,Ld 15 none t14,As 6 t15,As 7 kT]
abbrev C150_3 := Sq [6,7] C150_2 .ret
abbrev C150_4 := Ro [Fa 17 0 t3,Ld 18 none t17,Bn 19 .neq t18 (kI 3),Mv 20 t19,Faf 21 20 3 t3,Ldf 22 20 none t21,Cvf 23 20 .i64 t22,Caf 24 20 143 [t23],Unf 25 20 .not t24,Pk 26 t20 kT t25,As 16 t26]
abbrev C150_5 := Ro [As 6 (kU 0),As 7 kF]
abbrev C150_6 := Sq [6,7] C150_5 .ret
abbrev C150_7 := Cd t16 C150_6 .skip
abbrev C150_8 := Sq [1,2,3,16] C150_4 C150_7
abbrev C150_9 := Cd t10 C150_3 C150_8
abbrev C150_10 := Sq [1,2,3,10] C150_1 C150_9
abbrev C150_11 := Bk 0 C150_10
abbrev C150_12 := Ro [Fa 28 3 t3,Ld 29 none t28,Cv 30 .i64 t29,Mv 31 t1,Mv 32 t2,Ca 33 160 [t30,t31,t32],Mv 27 t33,Ex 34 0 t27,Ex 35 1 t27,As 8 t34,As 9 t35]
abbrev C150_13 := Ro [Mv 36 t9,Bn 37 .neq t36 (kI 0)]
abbrev C150_14 := Ro [Fa 39 3 t3,Ld 40 none t39,Cv 41 .i64 t40,Mv 42 t1,Mv 43 t2,Ca 44 161 [t41,t42,t43],Mv 38 t44,Ex 45 0 t38,Ex 46 1 t38,As 8 t45,As 9 t46]
abbrev C150_15 := Cd t37 C150_14 .skip
abbrev C150_16 := Sq [1,2,3,8,9,37] C150_13 C150_15
abbrev C150_17 := Ro [Mv 47 t8,Mv 48 t9,Bn 49 .eql t48 (kI 0),As 6 t47,As 7 t49]
abbrev C150_18 := Sq [6,7] C150_17 .ret
abbrev C150_19 := Sq [8,9] C150_16 C150_18
abbrev C150_20 := Sq [1,2,3,8,9] C150_12 C150_19
abbrev C150_21 := Sq [1,2,3] C150_11 C150_20
abbrev C150_22 := Sq [1,2,3] C150_0 C150_21
abbrev C150 := C150_22
abbrev C150r : List RV := [.t 6,.t 7]
theorem C150ok : Okf Tryz.prog 150 Tryz.f150 C150 C150r := ⟨Tryz.func150, by kernel_rfl, by kernel_rfl, by kernel_rfl⟩

abbrev C151_0 := Ro [As 8 (kI 0)]
abbrev C151_1 := Ro [Mv 10 t0,Mv 11 t1,Mv 12 t2,Mv 13 t3,Ca 14 162 [t10,t11,t12,t13],As 9 t14]
abbrev C151_2 := Ro [Mv 15 t2,As 8 t15]
abbrev C151_3 := Sq [8] C151_2 .ret
abbrev C151_4 := Ro [Mv 17 t1,Ca 18 163 [t17],Mv 19 t18,Mvt 20 19 t0,Mvt 21 19 t1,Mvt 22 19 t3,Mvt 23 19 t2,Cat 24 19 162 [t20,t21,t22,t23],Pk 25 t19 t24 kF,As 16 t25]
abbrev C151_5 := Ro [Mv 26 t3,As 8 t26]
abbrev C151_6 := Sq [8] C151_5 .ret
abbrev C151_7 := Cd t16 C151_6 .skip
abbrev C151_8 := Sq [3,16] C151_4 C151_7
abbrev C151_9 := Cd t9 C151_3 C151_8
abbrev C151_10 := Sq [0,1,2,3,9] C151_1 C151_9
abbrev C151_11 := Bk 0 C151_10
abbrev C151_12 := Ro [As 8 (kI (-1))]
abbrev C151_13 := Sq [8] C151_12 .ret
abbrev C151_14 := Sq [] C151_11 C151_13
abbrev C151_15 := Sq [0,1,2,3] C151_0 C151_14
abbrev C151 := C151_15
abbrev C151r : List RV := [.t 8]
theorem C151ok : Okf Tryz.prog 151 Tryz.f151 C151 C151r := ⟨Tryz.func151, by kernel_rfl, by kernel_rfl, by kernel_rfl⟩

abbrev C152_0 := Ro [As 8 kF]
abbrev C152_1 := Ro [Mv 9 t1]
abbrev C152_2 := Ro [Bn 11 .eql t9 (kI 29),As 10 t11]
abbrev C152_3 := Ro [Bn 12 .eql t9 (kI 33),As 10 t12]
abbrev C152_4 := Ro [Bn 13 .eql t9 (kI 31),As 10 t13]
abbrev C152_5 := Cd t10 .skip C152_4
abbrev C152_6 := Sq [0,2,3,9,10] C152_3 C152_5
abbrev C152_7 := Cd t10 .skip C152_6
abbrev C152_8 := Sq [0,2,3,9,10] C152_2 C152_7
abbrev C152_9 := Ro [Mv 14 t2,Mv 15 t3,Bn 16 .eql t14 t15,As 8 t16]
abbrev C152_10 := Sq [8] C152_9 .ret
abbrev C152_11 := Ro [Bn 18 .eql t9 (kI 32),As 17 t18]
abbrev C152_12 := Ro [Mv 19 t2,Mv 20 t3,Bn 21 .eql t19 t20,Mv 22 t21,Mvf 23 22 t0,Mvf 24 22 t3,Caf 25 22 164 [t23,t24,(kU 0)],Pk 26 t22 kT t25,As 8 t26]
abbrev C152_13 := Sq [8] C152_12 .ret
abbrev C152_14 := Ro [Bn 28 .eql t9 (kI 37),As 27 t28]
abbrev C152_15 := Ro [Bn 29 .eql t9 (kI 50),As 27 t29]
abbrev C152_16 := Cd t27 .skip C152_15
abbrev C152_17 := Sq [0,2,3,9,27] C152_14 C152_16
abbrev C152_18 := Ro [Mv 30 t0,Mv 31 t3,Ca 32 164 [t30,t31,(kU 0)],Mv 33 t32,Mvf 34 33 t0,Mvf 35 33 t2,Caf 36 33 164 [t34,t35,(kU 0)],Pk 37 t33 kT t36,As 8 t37]
abbrev C152_19 := Sq [8] C152_18 .ret
abbrev C152_20 := Cd t27 C152_19 .skip
abbrev C152_21 := Sq [0,2,3,27] C152_17 C152_20
abbrev C152_22 := Cd t17 C152_13 C152_21
abbrev C152_23 := Sq [0,2,3,9,17] C152_11 C152_22
abbrev C152_24 := Cd t10 C152_10 C152_23
abbrev C152_25 := Sq [0,2,3,9,10] C152_8 C152_24
abbrev C152_26 := Bk 0 C152_25
abbrev C152_27 := Sq [0,2,3,9] C152_1 C152_26
abbrev C152_28 := Ro [As 8 kF]
abbrev C152_29 := Sq [8] C152_28 .ret
abbrev C152_30 := Sq [] C152_27 C152_29
abbrev C152_31 := Sq [0,1,2,3] C152_0 C152_30
abbrev C152 := C152_31
abbrev C152r : List RV := [.t 8]
theorem C152ok : Okf Tryz.prog 152 Tryz.f152 C152 C152r := ⟨Tryz.func152, by kernel_rfl, by kernel_rfl, by kernel_rfl⟩

abbrev C153_0 := Ro [Br 2 t0,Br 3 t1,As 4 kF]
abbrev C153_1 := Ro [Fa 7 0 t2,Ld 8 none t7,Fa 9 0 t3,Ld 10 none t9,Bn 11 .neq t8 t10]
abbrev C153_2 := Ro [As 4 kF]
abbrev C153_3 := Sq [4] C153_2 .ret
abbrev C153_4 := Cd t11 C153_3 .skip
abbrev C153_5 := Sq [2,3,11] C153_1 C153_4
abbrev C153_6 := Ro [Fa 12 0 t2,Ld 13 none t12]
abbrev C153_7 := Ro [Bn 15 .eql t13 (kI 1),As 14 t15]
abbrev C153_8 := Ro [Bn 16 .eql t13 (kI 2),As 14 t16]
abbrev C153_9 := Cd t14 .skip C153_8
abbrev C153_10 := Sq [2,3,13,14] C153_7 C153_9
abbrev C153_11 := Ro [Fa 17 3 t2,Ld 18 none t17,Fa 19 3 t3,Ld 20 none t19,Bn 21 .eql t18 t20,As 4 t21]
abbrev C153_12 := Sq [4] C153_11 .ret
abbrev C153_13 := Ro [Bn 23 .eql t13 (kI 4),As 22 t23]
abbrev C153_14 := Ro [Fa 24 3 t2,Ld 25 none t24,Fa 26 3 t3,Ld 27 none t26,Bn 28 .eql t25 t27,Mv 29 t28,Fat 30 29 1 t2,Ldt 31 29 none t30,Fat 32 29 1 t3,Ldt 33 29 none t32,Bnt 34 29 .eql t31 t33,Pk 35 t29 t34 kF,As 4 t35]
abbrev C153_15 := Sq [4] C153_14 .ret
abbrev C153_16 := Ro [Bn 37 .eql t13 (kI 3),As 36 t37]
abbrev C153_17 := Ro [Fa 38 3 t2,Ld 39 none t38,Ca 40 165 [t39],As 5 t40]
abbrev C153_18 := Ro [Fa 41 1 t2,Ld 42 none t41,Fa 43 1 t3,Ld 44 none t43,Bn 45 .eql t42 t44,Mv 46 t45,Fat 47 46 2 t2,Ldt 48 46 none t47,Fat 49 46 2 t3,Ldt 50 46 none t49,Bnt 51 46 .eql t48 t50,Pk 52 t46 t51 kF,As 6 t52]
abbrev C153_19 := Ro [Mv 53 t5,Fa 54 3 t3,Ld 55 none t54,Ca 56 165 [t55],Bn 57 .eql t53 t56,Mv 58 t57,Mvt 59 58 t6,Mvt 60 58 t59,Mvf 61 60 t5,Caf 62 60 166 [t61],Mvf 63 60 t62,Fat 64 63 1 t2,Ldt 65 63 none t64,Fat 66 63 2 t3,Ldt 67 63 none t66,Bnt 68 63 .eql t65 t67,Pkf 69 60 t63 t68 kF,Mvf 70 60 t69,Fat 71 70 2 t2,Ldt 72 70 none t71,Fat 73 70 1 t3,Ldt 74 70 none t73,Bnt 75 70 .eql t72 t74,Pkf 76 60 t70 t75 kF,Pkt 77 58 t60 kT t76,Pk 78 t58 t77 kF,As 4 t78]
abbrev C153_20 := Sq [4] C153_19 .ret
abbrev C153_21 := Sq [2,3,5,6] C153_18 C153_20
abbrev C153_22 := Sq [2,3,5] C153_17 C153_21
abbrev C153_23 := Cd t36 C153_22 .skip
abbrev C153_24 := Sq [2,3,36] C153_16 C153_23
abbrev C153_25 := Cd t22 C153_15 C153_24
abbrev C153_26 := Sq [2,3,13,22] C153_13 C153_25
abbrev C153_27 := Cd t14 C153_12 C153_26
abbrev C153_28 := Sq [2,3,13,14] C153_10 C153_27
abbrev C153_29 := Bk 0 C153_28
abbrev C153_30 := Sq [2,3,13] C153_6 C153_29
abbrev C153_31 := Ro [As 4 kF]
abbrev C153_32 := Sq [4] C153_31 .ret
abbrev C153_33 := Sq [] C153_30 C153_32
abbrev C153_34 := Sq [2,3] C153_5 C153_33
abbrev C153_35 := Sq [2,3] C153_0 C153_34
abbrev C153 := C153_35
abbrev C153r : List RV := [.t 4]
theorem C153ok : Okf Tryz.prog 153 Tryz.f153 C153 C153r := ⟨Tryz.func153, by kernel_rfl, by kernel_rfl, by kernel_rfl⟩

abbrev C154_0 := Ro [As 6 kF,As 7 (kI 0)]
abbrev C154_1 := Ro [Mv 8 t0]
abbrev C154_2 := Ro [Bn 10 .eql t8 (kI 5),As 9 t10]
abbrev C154_3 := Ro [Mv 11 t1,Mv 12 t2,Bn 13 .eql t11 t12,As 6 t13,As 7 (kI 0)]
abbrev C154_4 := Sq [6,7] C154_3 .ret
abbrev C154_5 := Ro [Bn 15 .eql t8 (kI 6),As 14 t15]
abbrev C154_6 := Ro [Mv 16 t1,Mv 17 t2,Bn 18 .neq t16 t17,As 6 t18,As 7 (kI 0)]
abbrev C154_7 := Sq [6,7] C154_6 .ret
abbrev C154_8 := Ro [Bn 20 .eql t8 (kI 7),As 19 t20]
abbrev C154_9 := Ro [Mv 21 t1,Cv 22 .i32 t21,Mv 23 t2,Cv 24 .i32 t23,Bn 25 .lss t22 t24,As 6 t25,As 7 (kI 0)]
abbrev C154_10 := Sq [6,7] C154_9 .ret
abbrev C154_11 := Ro [Bn 27 .eql t8 (kI 8),As 26 t27]
abbrev C154_12 := Ro [Mv 28 t1,Cv 29 .i32 t28,Mv 30 t2,Cv 31 .i32 t30,Bn 32 .geq t29 t31,As 6 t32,As 7 (kI 0)]
abbrev C154_13 := Sq [6,7] C154_12 .ret
abbrev C154_14 := Ro [Bn 34 .eql t8 (kI 9),As 33 t34]
abbrev C154_15 := Ro [Mv 35 t1,Mv 36 t2,Bn 37 .lss t35 t36,As 6 t37,As 7 (kI 0)]
abbrev C154_16 := Sq [6,7] C154_15 .ret
abbrev C154_17 := Ro [Bn 39 .eql t8 (kI 10),As 38 t39]
abbrev C154_18 := Ro [Mv 40 t1,Mv 41 t2,Bn 42 .geq t40 t41,As 6 t42,As 7 (kI 0)]
abbrev C154_19 := Sq [6,7] C154_18 .ret
abbrev C154_20 := Cd t38 C154_19 .skip
abbrev C154_21 := Sq [1,2,38] C154_17 C154_20
abbrev C154_22 := Cd t33 C154_16 C154_21
abbrev C154_23 := Sq [1,2,8,33] C154_14 C154_22
abbrev C154_24 := Cd t26 C154_13 C154_23
abbrev C154_25 := Sq [1,2,8,26] C154_11 C154_24
abbrev C154_26 := Cd t19 C154_10 C154_25
abbrev C154_27 := Sq [1,2,8,19] C154_8 C154_26
abbrev C154_28 := Cd t14 C154_7 C154_27
abbrev C154_29 := Sq [1,2,8,14] C154_5 C154_28
abbrev C154_30 := Cd t9 C154_4 C154_29
abbrev C154_31 := Sq [1,2,8,9] C154_2 C154_30
abbrev C154_32 := Bk 0 C154_31
abbrev C154_33 := Sq [1,2,8] C154_1 C154_32
abbrev C154_34 := Ro [As 6 kF,As 7 (kI 9)]
abbrev C154_35 := Sq [6,7] C154_34 .ret
abbrev C154_36 := Sq [] C154_33 C154_35
abbrev C154_37 := Sq [0,1,2] C154_0 C154_36
abbrev C154 := C154_37
abbrev C154r : List RV := [.t 6,.t 7]
theorem C154ok : Okf Tryz.prog 154 Tryz.f154 C154 C154r := ⟨Tryz.func154, by kernel_rfl, by kernel_rfl, by kernel_rfl⟩

abbrev C155_0 := Ro [As 2 (kI 0)]
abbrev C155_1 := Ro [Mv 3 t0]
abbrev C155_2 := Ro [As 2 (kI 1)]
abbrev C155_3 := Sq [2] C155_2 .ret
abbrev C155_4 := Cd t3 C155_3 .skip
abbrev C155_5 := Sq [3] C155_1 C155_4
abbrev C155_6 := Ro [As 2 (kI 2)]
abbrev C155_7 := Sq [2] C155_6 .ret
abbrev C155_8 := Sq [] C155_5 C155_7
abbrev C155_9 := Sq [0] C155_0 C155_8
abbrev C155 := C155_9
abbrev C155r : List RV := [.t 2]
theorem C155ok : Okf Tryz.prog 155 Tryz.f155 C155 C155r := ⟨Tryz.func155, by kernel_rfl, by kernel_rfl, by kernel_rfl⟩
end Go.Ab
end
