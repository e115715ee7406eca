/- What lies in a box may be seen as data; a box may be. -/
import Derived.Test.YtjaknpophnolmaaWd
set_option linter.unusedSimpArgs false
set_option linter.unusedVariables false
namespace Go.Ab
theorem Le.box {g : Heap} {b : Nat} {cells : List AV} {sp : Nat} (hb : g b = none) : Le (.ptr b 0) (upd g b ⟨cells, sp⟩) (.cp cells 0) g := by
  intro w v hw hr
  rw [rep_ptr hr]
  obtain ⟨l1, l2, l3, l4⟩ := hrep_new hb hw
  refine ⟨l1, ?_, l2⟩
  exact .cp cells 0 b 0 (fun i => (w.cell? ⟨b, i, none⟩).getD undef) l3 (fun hd => hd hb) (fun i v hv => by
    obtain ⟨cv, e1, e2, _⟩ := l4 i v hv
    rw [Nat.zero_add, e1]; exact ⟨rfl, e2⟩) (fun i v hv => by
    obtain ⟨cv, e1, _, e3⟩ := l4 i v hv
    rw [e1]; exact e3)
theorem sub_upd {h g : Heap} {b : Nat} {X : Blk} (hb : h b = none) (hs : Sub h g) : Sub h (upd g b X) := by
  intro d y hd
  have : ¬ d = b := fun e => by rw [e, hb] at hd; cases hd
  rw [upd_at, if_neg this]
  exact hs d y hd
theorem le_tup1 {r r' : AV} {h h' : Heap} {k : IntKind} {x : Int} (hl : Le r h r' h') : Le (.tup [r, .int k x]) h (.tup [r', .int k x]) h' := by
  intro w v hw hr
  obtain ⟨cs, rfl, hl1, hr1⟩ := rep_tup hr
  obtain ⟨a, b, rfl⟩ : ∃ a b, cs = #[a, b] := by
    match cs, hl1 with
    | ⟨[a, b]⟩, _ => exact ⟨a, b, rfl⟩
  obtain ⟨x1, x2, x3⟩ := hl w a hw (hr1 0 r a rfl rfl)
  refine ⟨x1, .tup _ _ rfl fun i u c h1 h2 => ?_, x3⟩
  match i with
  | 0 => simp at h1 h2; subst h1; subst h2; exact x2
  | 1 =>
    simp at h1 h2; subst h1; subst h2
    have := hr1 1 (.int k x) b rfl rfl
    rw [rep_int this]; exact .int _ _
  | i + 2 => simp at h1
theorem le_trans {a b c : AV} {h h1 h2 : Heap} (x : Le a h b h1) (y : Le b h1 c h2) : Le a h c h2 := by
  intro w v hw hr
  obtain ⟨p, q, r⟩ := x w v hw hr
  obtain ⟨p', q', r'⟩ := y w v p q
  exact ⟨p', q', fun d hd => r' d (r d hd)⟩
theorem upd_dom {g : Heap} {b : Nat} {x y : Blk} : (upd g b x).dom = (upd g b y).dom := by
  funext c
  simp only [Heap.dom, upd]
  split <;> simp
/-- A row that lies in a box of one's own, seen as data there. -/
theorem Le.cell {sz n : Nat} {g h : Heap} {v u : AV} {cells cs cs' : List AV} {b sp : Nat} (ho : Own sz (upd g b ⟨cs, sp⟩) v cells n h) (hl : cs'.length = cs.length)
    (hc : ∀ i : Nat, cs'[i]? = cs[i]? ∨ (cs[i]? = some v ∧ cs'[i]? = some (AV.ro cells n))) : Le u h u (upd g b ⟨cs', sp⟩) := by
  intro w x hw hr
  obtain ⟨l1, l2⟩ := hrep_less hw ho.sub
  have hd : (upd g b ⟨cs', sp⟩).dom = (upd g b ⟨cs, sp⟩).dom := upd_dom
  refine ⟨?_, by rw [hd]; exact hr.keep l2.keeps, fun c hc => ?_⟩
  · intro c y hy
    by_cases e : c = b
    · subst e
      rw [upd_same] at hy
      cases hy
      obtain ⟨arr, t, e1, e2, e3⟩ := hw c ⟨cs, sp⟩ (ho.get (upd_same _ _ _))
      refine ⟨arr, t, e1, by rw [hl]; exact e2, fun i z hz => ?_⟩
      rcases hc i with q | ⟨q1, q2⟩
      · simp only at hz
        rw [q] at hz
        obtain ⟨cv, f1, f2, f3⟩ := e3 i z hz
        exact ⟨cv, f1, f2, by rw [hd]; exact f3.keep l2.keeps⟩
      · simp only at hz
        rw [q2] at hz
        cases hz
        obtain ⟨cv, f1, f2, f3⟩ := e3 i v q1
        refine ⟨cv, f1, f2, ?_⟩
        rw [hd]
        exact (ho.freeze w cv hw f3).2.1
    · rw [upd_ne e] at hy
      have := l1 c y (by rw [upd_ne e]; exact hy)
      rw [hd]
      exact this
  · have := ho.sub.none hc
    simp only [upd] at this ⊢
    split at this
    · cases this
    · rename_i e; rw [if_neg e]; exact this
theorem wkQ.cell {sz n : Nat} {g h : Heap} {v u : AV} {cells cs cs' : List AV} {b sp : Nat} {K : AV → Heap → Prop} (ho : Own sz (upd g b ⟨cs, sp⟩) v cells n h) (hl : cs'.length = cs.length)
    (hc : ∀ i : Nat, cs'[i]? = cs[i]? ∨ (cs[i]? = some v ∧ cs'[i]? = some (AV.ro cells n))) (hq : K u (upd g b ⟨cs', sp⟩)) : wkQ K u h := ⟨_, _, Le.cell ho hl hc, hq⟩
end Go.Ab
