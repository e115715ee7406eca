/- Rows of one's own, one over the other. -/
import Derived.Test.YtecfchkmmnphdaaLo
set_option linter.unusedSimpArgs false
set_option linter.unusedVariables false
namespace Go.Ab
theorem own_lie {sz n : Nat} {g h : Heap} {v : AV} {cells : List AV} (ho : Own sz g v cells n h) (hn : 0 < n) : ∃ b pre cap sp, v = .sl b pre.length n cap ∧ h b = some ⟨pre ++ cells, sp⟩ ∧ g b = none ∧
    (∀ cells', cells'.length = cells.length → Own sz g v cells' n (Ab.upd h b ⟨pre ++ cells', sp⟩)) := by
  cases ho with
  | nil => omega
  | row b n cap pre cells sp hb hl hc =>
    refine ⟨b, pre, cap, sp, rfl, upd_same _ _ _, hb, fun cells' hl' => ?_⟩
    rw [upd_upd]
    exact .row b n cap pre cells' sp hb (by omega) hc
inductive Rows (sz : Nat) (g : Heap) : List AV → List (List AV × Nat) → Heap → Prop
  | nil : Rows sz g [] [] g
  | snoc {vs ms h1 v cells n h} (hr : Rows sz g vs ms h1) (ho : Own sz h1 v cells n h) : Rows sz g (vs ++ [v]) (ms ++ [(cells, n)]) h
variable {sz : Nat} {g h : Heap} {vs : List AV} {ms : List (List AV × Nat)}
theorem Rows.sub (hr : Rows sz g vs ms h) : Sub g h := by
  induction hr with
  | nil => exact .refl _
  | snoc hr ho ih => exact ih.trans ho.sub
theorem Rows.len (hr : Rows sz g vs ms h) : vs.length = ms.length := by
  induction hr with
  | nil => rfl
  | snoc hr ho ih => simp [ih]
theorem Rows.upd {b : Nat} {x : Blk} (hr : Rows sz g vs ms h) (hb : h b = none ∨ ∃ y, g b = some y) : Rows sz (Ab.upd g b x) vs ms (Ab.upd h b x) := by
  induction hr with
  | nil => exact .nil
  | snoc hr ho ih =>
    rcases hb with hb | ⟨y, hy⟩
    · exact .snoc (ih (.inl (ho.sub.none hb))) (ho.upd (.inl hb))
    · exact .snoc (ih (.inr ⟨y, hy⟩)) (ho.upd (.inr ⟨y, hr.sub b y hy⟩))
theorem Rows.lie (hr : Rows sz g vs ms h) : ∀ (k : Nat) (v : AV) (cells : List AV) (n : Nat), vs[k]? = some v → ms[k]? = some (cells, n) → 0 < n →
    ∃ b pre cap sp, v = .sl b pre.length n cap ∧ h b = some ⟨pre ++ cells, sp⟩ ∧ g b = none ∧ ∀ cells', cells'.length = cells.length → Rows sz g vs (ms.set k (cells', n)) (Ab.upd h b ⟨pre ++ cells', sp⟩) := by
  induction hr with
  | nil => intro k v cells n hv; simp at hv
  | @snoc vs ms h1 v0 cells0 n0 h hr ho ih =>
    intro k v cells n hv hm hn
    have hl := hr.len
    by_cases hk : k < vs.length
    · rw [List.getElem?_append_left hk] at hv
      rw [List.getElem?_append_left (by omega)] at hm
      obtain ⟨b, pre, cap, sp, e1, e2, e3, e4⟩ := ih k v cells n hv hm hn
      refine ⟨b, pre, cap, sp, e1, ho.get e2, e3, fun cells' hc => ?_⟩
      rw [List.set_append_left _ _ (by omega)]
      exact .snoc (e4 cells' hc) (ho.upd (.inr ⟨_, e2⟩))
    · rw [List.getElem?_append_right (by omega)] at hv
      rw [List.getElem?_append_right (by omega)] at hm
      have hk0 : k - vs.length = 0 := by
        cases hj : k - vs.length with
        | zero => rfl
        | succ j => rw [hj] at hv; simp at hv
      rw [hk0] at hv
      rw [← hl, hk0] at hm
      simp only [List.getElem?_cons_zero, Option.some.injEq, Prod.mk.injEq] at hv hm
      obtain ⟨rfl, rfl⟩ := hm
      subst hv
      obtain ⟨b, pre, cap, sp, e1, e2, e3, e4⟩ := own_lie ho hn
      refine ⟨b, pre, cap, sp, e1, e2, hr.sub.none e3, fun cells' hc => ?_⟩
      rw [List.set_append_right _ _ (by omega), ← hl, hk0]
      exact .snoc hr (e4 cells' hc)
theorem Rows.alen (hr : Rows sz g vs ms h) : ∀ (k : Nat) (v : AV) (cells : List AV) (n : Nat), vs[k]? = some v → ms[k]? = some (cells, n) → Ab.alen v = some n := by
  induction hr with
  | nil => intro k v cells n hv; simp at hv
  | @snoc vs ms h1 v0 cells0 n0 h hr ho ih =>
    intro k v cells n hv hm
    have hl := hr.len
    by_cases hk : k < vs.length
    · rw [List.getElem?_append_left hk] at hv
      rw [List.getElem?_append_left (by omega)] at hm
      exact ih k v cells n hv hm
    · rw [List.getElem?_append_right (by omega)] at hv
      rw [List.getElem?_append_right (by omega)] at hm
      have hk0 : k - vs.length = 0 := by
        cases hj : k - vs.length with
        | zero => rfl
        | succ j => rw [hj] at hv; simp at hv
      rw [hk0] at hv
      rw [← hl, hk0] at hm
      simp only [List.getElem?_cons_zero, Option.some.injEq, Prod.mk.injEq] at hv hm
      obtain ⟨rfl, rfl⟩ := hm
      subst hv
      exact ho.alen
theorem Rows.rep {w : World} (hr : Rows sz g vs ms h) : HRep w h → ∀ (k : Nat) (v : AV) (cells : List AV) (n : Nat) (cv : Value), vs[k]? = some v → ms[k]? = some (cells, n) → Rep w h.dom v cv → Rep w g.dom (.ro cells n) cv := by
  induction hr with
  | nil => intro _ k v cells n cv hv; simp at hv
  | @snoc vs ms h1 v0 cells0 n0 h hr ho ih =>
    intro hw k v cells n cv hv hm hrep
    have hl := hr.len
    obtain ⟨l1, l2⟩ := hrep_less hw ho.sub
    by_cases hk : k < vs.length
    · rw [List.getElem?_append_left hk] at hv
      rw [List.getElem?_append_left (by omega)] at hm
      exact ih l1 k v cells n cv hv hm (hrep.keep l2.keeps)
    · rw [List.getElem?_append_right (by omega)] at hv
      rw [List.getElem?_append_right (by omega)] at hm
      have hk0 : k - vs.length = 0 := by
        cases hj : k - vs.length with
        | zero => rfl
        | succ j => rw [hj] at hv; simp at hv
      rw [hk0] at hv
      rw [← hl, hk0] at hm
      simp only [List.getElem?_cons_zero, Option.some.injEq, Prod.mk.injEq] at hv hm
      obtain ⟨rfl, rfl⟩ := hm
      subst hv
      have := (ho.freeze w cv hw hrep).2.1
      obtain ⟨_, k2⟩ := hrep_less l1 hr.sub
      exact this.keep k2.keeps
/-- All rows that lie in a block's cells, seen as data there. -/
theorem Rows.freeze {u : AV} {cs cs' : List AV} {b sp : Nat} (hr : Rows sz (Ab.upd g b ⟨cs, sp⟩) vs ms h) (hl : cs'.length = cs.length)
    (hc : ∀ i : Nat, cs'[i]? = cs[i]? ∨ ∃ (k : Nat) (v : AV) (cells : List AV) (n : Nat), vs[k]? = some v ∧ ms[k]? = some (cells, n) ∧ cs[i]? = some v ∧ cs'[i]? = some (AV.ro cells n)) : Le u h u (Ab.upd g b ⟨cs', sp⟩) := by
  intro w x hw hx
  obtain ⟨l1, l2⟩ := hrep_less hw hr.sub
  have hd : (Ab.upd g b ⟨cs', sp⟩).dom = (Ab.upd g b ⟨cs, sp⟩).dom := upd_dom
  refine ⟨?_, by rw [hd]; exact hx.keep l2.keeps, fun c hc => ?_⟩
  · intro c y hy
    by_cases e : c = b
    · subst e
      rw [upd_same] at hy
      cases hy
      obtain ⟨arr, t, e1, e2, e3⟩ := hw c ⟨cs, sp⟩ (hr.sub c _ (upd_same _ _ _))
      refine ⟨arr, t, e1, by rw [hl]; exact e2, fun i z hz => ?_⟩
      rcases hc i with q | ⟨k, v, cells, n, q1, q2, q3, q4⟩
      · simp only at hz
        rw [q] at hz
        obtain ⟨cv, f1, f2, f3⟩ := e3 i z hz
        exact ⟨cv, f1, f2, by rw [hd]; exact f3.keep l2.keeps⟩
      · simp only at hz
        rw [q4] at hz
        cases hz
        obtain ⟨cv, f1, f2, f3⟩ := e3 i v q3
        exact ⟨cv, f1, f2, by rw [hd]; exact hr.rep hw k v cells n cv q1 q2 f3⟩
    · rw [upd_ne e] at hy
      have := l1 c y (by rw [upd_ne e]; exact hy)
      rw [hd]
      exact this
  · have := hr.sub.none hc
    simp only [Ab.upd] at this ⊢
    split at this
    · cases this
    · rename_i e; rw [if_neg e]; exact this
/-- Which of two rows came first does not matter. -/
theorem own_swap {s1 s2 n1 n2 : Nat} {h1 : Heap} {v1 v2 : AV} {c1 c2 : List AV} (o1 : Own s1 g v1 c1 n1 h1) (o2 : Own s2 h1 v2 c2 n2 h) : ∃ h2, Own s2 g v2 c2 n2 h2 ∧ Own s1 h2 v1 c1 n1 h := by
  cases o1 with
  | nil => exact ⟨_, o2, .nil⟩
  | row b _ cap pre _ sp hb hl hc =>
    cases o2 with
    | nil => exact ⟨_, .nil, .row b n1 cap pre c1 sp hb hl hc⟩
    | row b' _ cap' pre' _ sp' hb' hl' hc' =>
      have hne := upd_none hb'
      refine ⟨_, .row b' n2 cap' pre' c2 sp' hne.2 hl' hc', ?_⟩
      rw [upd_comm (fun e => hne.1 e.symm)]
      exact .row b n1 cap pre c1 sp (by rw [upd_ne (fun e => hne.1 e.symm)]; exact hb) hl hc
end Go.Ab
