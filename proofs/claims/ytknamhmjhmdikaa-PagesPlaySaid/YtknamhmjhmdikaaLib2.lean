/- A frame for walks over what values stand for, part Lib2. -/
import Derived.Test.YtknamhmjhmdikaaAbS
namespace Go.Ab
/-- Owned blocks, some of them forgotten. -/
def Sub (h h' : Heap) : Prop := ∀ b x, h b = some x → h' b = some x
theorem Sub.refl (h : Heap) : Sub h h := fun _ _ e => e
theorem Sub.trans {a b c : Heap} (h : Sub a b) (h' : Sub b c) : Sub a c := fun x y e => h' x y (h x y e)
theorem upd_same (h : Heap) (b : Nat) (x : Blk) : upd h b x b = some x := by simp [upd]
theorem upd_ne {h : Heap} {b c : Nat} {x : Blk} (hne : c ≠ b) : upd h b x c = h c := by simp [upd, hne]
theorem upd_upd (h : Heap) (b : Nat) (x y : Blk) : upd (upd h b x) b y = upd h b y := by funext c; simp only [upd]; split <;> rfl
theorem upd_comm {h : Heap} {b c : Nat} {x y : Blk} (hne : b ≠ c) : upd (upd h b x) c y = upd (upd h c y) b x := by
  funext d
  simp only [upd]
  by_cases e1 : d = c
  · subst e1; simp [Ne.symm hne]
  · by_cases e2 : d = b
    · subst e2; simp [e1]
    · simp [e1, e2]
theorem upd_self {h : Heap} {b : Nat} {x : Blk} (hb : h b = some x) : upd h b x = h := by
  funext c; simp only [upd]; split
  · rename_i e; rw [e, hb]
  · rfl
theorem Sub.alloc {h h1 : Heap} {b : Nat} {x : Blk} (hs : Sub h h1) (hb : h1 b = none) : Sub h (upd h1 b x) := by
  intro c y e
  have hne : c ≠ b := by rintro rfl; have := hs _ _ e; rw [hb] at this; cases this
  rw [upd_ne hne]; exact hs c y e
theorem Sub.set {h h1 : Heap} {b : Nat} {x : Blk} (hs : Sub h h1) (hb : h b = none) : Sub h (upd h1 b x) := by
  intro c y e
  have hne : c ≠ b := by rintro rfl; rw [hb] at e; cases e
  rw [upd_ne hne]; exact hs c y e
theorem Sub.upd {h h1 : Heap} {b : Nat} {x : Blk} (hs : Sub h h1) : Sub (upd h b x) (upd h1 b x) := by
  intro c y e
  by_cases hc : c = b
  · subst hc; rw [upd_same] at e ⊢; exact e
  · rw [upd_ne hc] at e ⊢; exact hs c y e
theorem Sub.none {h h1 : Heap} {b : Nat} (hs : Sub h h1) (hb : h1 b = none) : h b = none := by
  cases e : h b with
  | none => rfl
  | some x => rw [hs b x e] at hb; cases hb
theorem ne_of {h : Heap} {b c : Nat} {x : Blk} (hb : h b = none) (hc : h c = some x) : b ≠ c := by rintro rfl; rw [hb] at hc; cases hc
theorem upd_none {h : Heap} {b c : Nat} {x : Blk} (hc : upd h b x c = none) : c ≠ b ∧ h c = none := by
  unfold upd at hc
  split at hc
  · cases hc
  · rename_i e; exact ⟨e, hc⟩
section
variable {P : Program} {G : Glo}
/-- What a call leaves may be more than is told. -/
theorem Spec.drop {f : FuncId} {args : List AV} {h : Heap} {Q : AV → Heap → Prop} (hs : Spec P G f args h (fun r h' => ∃ h1, Sub h1 h' ∧ Q r h1)) : Spec P G f args h Q :=
  fun w vs h1 h2 h3 => (hs w vs h1 h2 h3).mono fun _ w' ⟨v, r, h', a, ⟨k, hk, q⟩, c, d, e⟩ => by
    obtain ⟨x, y⟩ := hrep_less c hk
    exact ⟨v, r, k, a, q, x, d.keep y.keeps, e.trans y⟩
/-- An argument told weaker. -/
def ArgLe (h : Heap) (a a' : AV) : Prop := ∀ (w : World) (v : Value), HRep w h → Rep w h.dom a v → Rep w h.dom a' v
theorem ArgLe.refl (h : Heap) (a : AV) : ArgLe h a a := fun _ _ _ r => r
theorem ArgLe.nils (h : Heap) : ArgLe h .nils (.ro [] 0) := fun _ _ _ r => by rw [rep_nils r]; exact .roe none 0
inductive ArgsLe (h : Heap) : List AV → List AV → Prop
  | nil : ArgsLe h [] []
  | cons {a a' : AV} {l l' : List AV} (ha : ArgLe h a a') (hl : ArgsLe h l l') : ArgsLe h (a :: l) (a' :: l')
theorem ArgsLe.rep {h : Heap} {l l' : List AV} (hl : ArgsLe h l l') {w : World} (hw : HRep w h) {vs : List Value} (hr : RepL w h.dom l vs) : RepL w h.dom l' vs := by
  induction hl generalizing vs with
  | nil => exact hr
  | cons ha _ ih =>
    cases vs with
    | nil => have := hr.1; simp at this
    | cons v s => exact .cons (ha w v hw (hr.2 0 _ v rfl rfl)) (ih ⟨by simpa using hr.1, fun i a b h1 h2 => hr.2 (i + 1) a b (by simpa using h1) (by simpa using h2)⟩)
theorem Spec.args {f : FuncId} {args args' : List AV} {h : Heap} {Q : AV → Heap → Prop} (hs : Spec P G f args' h Q) (hl : ArgsLe h args args') : Spec P G f args h Q :=
  fun w vs h1 h2 h3 => hs w vs h1 h2 (hl.rep h1 h3)
/-- Owned blocks that the callee is not shown: the call leaves them. -/
def flatV : AV → Bool
  | .int _ _ | .bool _ | .str _ | .nilp | .nils | .nilf | .any | .ptr _ _ | .sl _ _ _ _ => true
  | .ro cells n => cells.isEmpty && n == 0
  | .tup vs => vs.all fun | .int _ _ | .bool _ | .str _ | .nilp | .nils | .nilf | .any | .ptr _ _ | .sl _ _ _ _ => true | .ro cells n => cells.isEmpty && n == 0 | _ => false
  | _ => false
theorem rep_flat1 {w : World} {O O' : Nat → Prop} {a : AV} {v : Value} (hf : flatV a = true) (hr : Rep w O a v) : Rep w O' a v := by
  have one : ∀ {a : AV} {v : Value}, (match a with | .int _ _ | .bool _ | .str _ | .nilp | .nils | .nilf | .any | .ptr _ _ | .sl _ _ _ _ => true | .ro cells n => cells.isEmpty && n == 0 | _ => false) = true → Rep w O a v → Rep w O' a v := by
    intro a v hf hr
    cases hr with
    | any v => exact .any v
    | int k n => exact .int k n
    | bool b => exact .bool b
    | str s => exact .str s
    | nilp => exact .nilp
    | ptr b o hk => exact .ptr b o hk
    | nils => exact .nils
    | sl b o l c hlc hk => exact .sl b o l c hlc hk
    | sl0 b o a => exact .sl0 b o a
    | roe a c => exact .roe a c
    | nilf => exact .nilf
    | ro cells len cap b o cs _ _ _ _ _ =>
      simp at hf
      obtain ⟨rfl, rfl⟩ := hf
      exact .roe _ _
    | _ => simp at hf
  cases a with
  | tup vs =>
    obtain ⟨cs, rfl, hl, h1⟩ := rep_tup hr
    refine .tup vs cs hl fun i a c ha hc => one ?_ (h1 i a c ha hc)
    have := List.all_eq_true.1 hf a (List.mem_of_getElem? ha)
    exact this
  | _ => exact one hf hr
theorem rep_noO {w : World} {O : Nat → Prop} {a : AV} {v : Value} (hr : Rep w O a v) : Rep w (fun _ => False) a v :=
  hr.keep ⟨Nat.le_refl _, fun _ _ _ => ⟨fun h => h, rfl⟩, fun _ h => h⟩
/-- An argument as the callee sees it that owns nothing. -/
def Arg1 (h : Heap) (a a' : AV) : Prop := ∀ (w : World) (v : Value), HRep w h → Rep w h.dom a v → Rep w (fun _ => False) a' v
theorem Arg1.same (h : Heap) (a : AV) : Arg1 h a a := fun _ _ _ r => rep_noO r
theorem Arg1.nils (h : Heap) : Arg1 h .nils (.ro [] 0) := fun _ _ _ r => by rw [rep_nils r]; exact .roe none 0
/-- An owned row, seen as data. -/
theorem row_rep {w : World} {h : Heap} (hh : HRep w h) {b o n cap : Nat} {x : Blk} (hb : h b = some x) {cells : List AV} (hc : ∀ (i : Nat) v, cells[i]? = some v → x.cells[o + i]? = some v) (h0 : n = 0 → cells = []) {v : Value}
    (hr : Rep w h.dom (.sl b o n cap) v) {O' : Nat → Prop} (hO : ¬ O' b) (hk : ∀ c, ¬ h.dom c → ¬ O' c) : Rep w O' (.ro cells n) v := by
  obtain ⟨a, rfl, hlc, ha⟩ := rep_sl hr
  by_cases hz : n = 0 ∧ cap = 0
  · obtain ⟨rfl, rfl⟩ := hz
    rw [h0 rfl]; exact .roe _ _
  have hkc := rep_slC hr hz
  rcases ha with hz' | rfl
  · exact absurd hz' hz
  · have hat := hh.at hb hkc
    have hbs : b < w.heap.size := own_lt (hh b x hb)
    refine .ro cells n cap b o (fun i => (w.cell? ⟨b, o + i, none⟩).getD undef) hlc hbs hO (fun i v hv => ?_) (fun i v hv => ?_)
    · obtain ⟨cv, e1, e2, _⟩ := hat (o + i) v (hc i v hv)
      rw [Nat.zero_add] at e1
      rw [e1]; exact ⟨rfl, e2⟩
    · obtain ⟨cv, e1, _, e3⟩ := hat (o + i) v (hc i v hv)
      rw [Nat.zero_add] at e1
      rw [e1]
      exact e3.keep ⟨Nat.le_refl _, fun c _ hn => ⟨hk c hn, rfl⟩, fun _ h => h⟩
theorem Arg1.row {h : Heap} {b n cap : Nat} {pre cells : List AV} {sp : Nat} (hb : h b = some ⟨pre ++ cells, sp⟩) (h0 : n = 0 → cells = []) : Arg1 h (.sl b pre.length n cap) (.ro cells n) :=
  fun w v hw hr => row_rep hw hb (fun i v hv => by rw [List.getElem?_append_right (by omega)]; simpa using hv) h0 hr (fun h => h) (fun _ _ h => h)
inductive Args1 (h : Heap) : List AV → List AV → Prop
  | nil : Args1 h [] []
  | cons {a a' : AV} {l l' : List AV} (ha : Arg1 h a a') (hl : Args1 h l l') : Args1 h (a :: l) (a' :: l')
theorem Args1.rep {h : Heap} {l l' : List AV} (hl : Args1 h l l') {w : World} (hw : HRep w h) {vs : List Value} (hr : RepL w h.dom l vs) : RepL w (fun _ => False) l' vs := by
  induction hl generalizing vs with
  | nil => exact ⟨hr.1, fun i a v h => by simp at h⟩
  | cons ha _ ih =>
    cases vs with
    | nil => have := hr.1; simp at this
    | cons v s => exact .cons (ha w v hw (hr.2 0 _ v rfl rfl)) (ih ⟨by simpa using hr.1, fun i a b h1 h2 => hr.2 (i + 1) a b (by simpa using h1) (by simpa using h2)⟩)
def noH : Heap := fun _ => none
theorem noH_dom : noH.dom = fun _ => False := by funext b; simp [Heap.dom, noH]
/-- A callee that is handed nothing that is owned: what is owned stays as it is. -/
theorem Spec.borrow {f : FuncId} {args args' : List AV} {h : Heap} {Q Q' : AV → Heap → Prop} (hs : Spec P G f args' noH Q) (ha : Args1 h args args') (hq : ∀ r h1, Q r h1 → flatV r = true ∧ Q' r h) : Spec P G f args h Q' := by
  intro w vs k1 k2 k3
  refine (hs w vs (fun b x hx => by cases hx) ⟨fun g => by rw [noH_dom]; exact rep_noO (k2.1 g), fun x v e => by rw [noH_dom]; exact rep_noO (k2.2 x v e)⟩ (by rw [noH_dom]; exact ha.rep k1 k3)).mono ?_
  rintro e w' ⟨v, r, h1, he, q, _, m2, m3⟩
  obtain ⟨hf, hq'⟩ := hq r h1 q
  have hk : Keeps w h.dom w' h.dom := ⟨m3.size, fun b hb hn => ⟨hn, (m3.blk b hb rfl).2⟩, m3.cel⟩
  refine ⟨v, r, h, he, hq', fun b x hb => ?_, rep_flat1 hf m2, ⟨m3.size, fun b hb hn => ⟨hn, (m3.blk b hb rfl).2⟩, m3.cel, m3.os, m3.tape, m3.out⟩⟩
  exact own_keep (k1 b x hb) (m3.blk b (own_lt (k1 b x hb)) rfl).2 hk
/-- A row that is owned becomes data that stays. -/
theorem Le.freeze {g : Heap} {b n cap : Nat} {pre cells : List AV} {sp : Nat} (hb : g b = none) (h0 : n = 0 → cells = []) : Le (.sl b pre.length n cap) (upd g b ⟨pre ++ cells, sp⟩) (.ro cells n) g := by
  intro w v hw hr
  have hsub : Sub g (upd g b ⟨pre ++ cells, sp⟩) := (Sub.refl g).alloc hb
  obtain ⟨l1, l2⟩ := hrep_less hw hsub
  refine ⟨l1, ?_, fun c hc => hsub.none hc⟩
  exact row_rep hw (upd_same g b _) (fun i v hv => by rw [List.getElem?_append_right (by omega)]; simpa using hv) h0 hr (fun h => h hb) (fun c hc hn => hc fun e => hn (hsub.none e))
theorem Le.refl (r : AV) (h : Heap) : Le r h r h := fun _ _ hw hr => ⟨hw, hr, fun _ e => e⟩
theorem Le.nils {h : Heap} : Le .nils h (.ro [] 0) h := fun _ _ hw hr => ⟨hw, by rw [rep_nils hr]; exact .roe none 0, fun _ e => e⟩
end
/-- A slice of one's own: elements of sz cells each, over blocks g that it does not touch. -/
inductive Own (sz : Nat) (g : Heap) : AV → List AV → Nat → Heap → Prop
  | nil : Own sz g .nils [] 0 g
  | row (b n cap : Nat) (pre cells : List AV) (sp : Nat) (hb : g b = none) (hl : cells.length = n * sz) (hc : cap * sz ≤ n * sz + sp) : Own sz g (.sl b pre.length n cap) cells n (upd g b ⟨pre ++ cells, sp⟩)
theorem Own.sub {sz n : Nat} {g h : Heap} {v : AV} {cells : List AV} (ho : Own sz g v cells n h) : Sub g h := by
  cases ho with
  | nil => exact .refl _
  | row b n cap pre cells sp hb hl hc => exact (Sub.refl g).alloc hb
theorem Own.get {sz n : Nat} {g h : Heap} {v : AV} {cells : List AV} (ho : Own sz g v cells n h) {b : Nat} {x : Blk} (hb : g b = some x) : h b = some x := ho.sub b x hb
theorem Own.len {sz n : Nat} {g h : Heap} {v : AV} {cells : List AV} (ho : Own sz g v cells n h) : cells.length = n * sz := by
  cases ho with
  | nil => simp
  | row b n cap pre cells sp hb hl hc => exact hl
theorem Own.alen {sz n : Nat} {g h : Heap} {v : AV} {cells : List AV} (ho : Own sz g v cells n h) : Ab.alen v = some n := by
  cases ho <;> rfl
/-- A new block, or another block written. -/
theorem Own.upd {sz n : Nat} {g h : Heap} {v : AV} {cells : List AV} (ho : Own sz g v cells n h) {b : Nat} {x : Blk} (hb : h b = none ∨ ∃ y, g b = some y) : Own sz (Ab.upd g b x) v cells n (Ab.upd h b x) := by
  cases ho with
  | nil => exact .nil
  | row c n cap pre cells sp hc hl hcap =>
    have hne : c ≠ b := by
      rcases hb with hb | ⟨y, hy⟩
      · exact fun e => (upd_none hb).1 e.symm
      · exact ne_of hc hy
    rw [upd_comm hne]
    exact .row c n cap pre cells sp (by rw [upd_ne hne]; exact hc) hl hcap
theorem Own.app {sz bytes n m : Nat} {g h : Heap} {v : AV} {cells cs : List AV} {Q : AV → Heap → Prop} (ho : Own sz g v cells n h) (hcs : cs.length = m * sz) (hb : (n + m) * bytes ≤ 140737488355328) (h63 : n + m ≤ 9223372036854775807)
    (hq : ∀ v' h', Own sz g v' (cells ++ cs) (n + m) h' → Q v' h') : appQ sz bytes m cs v h Q := by
  cases ho with
  | nil =>
    simp only [appQ]
    refine ⟨by simpa using hb, by simpa using h63, fun hm => ?_, fun hm b cap hbn hle => ?_⟩
    · subst hm
      have : cs = [] := List.eq_nil_of_length_eq_zero (by simpa using hcs)
      subst this
      exact hq _ _ .nil
    · have := hq (.sl b ([] : List AV).length (0 + m) cap) _ (.row b (0 + m) cap [] ([] ++ cs) ((cap - m) * sz) hbn (by simpa using hcs) (by
        rw [Nat.zero_add, ← Nat.add_mul, Nat.add_sub_cancel' hle]; exact Nat.le_refl _))
      simpa using this
  | row b n cap pre cells sp hbn hl hc =>
    simp only [appQ, upd_same]
    refine ⟨by simp [hl], hc, hb, h63, fun b' pre' cap' sp' hb' hcap => ?_⟩
    have hgb : g b' = none := by
      rcases hb' with rfl | h
      · exact hbn
      · exact (upd_none h).2
    have he : Ab.upd (era (Ab.upd g b ⟨pre ++ cells, sp⟩) b) b' ⟨pre' ++ List.drop pre.length (pre ++ cells) ++ cs, sp'⟩ = Ab.upd g b' ⟨pre' ++ (cells ++ cs), sp'⟩ := by
      funext c
      simp only [Ab.upd, era, List.drop_left, List.append_assoc]
      by_cases e1 : c = b'
      · simp [e1]
      · by_cases e2 : c = b
        · simp [e2, hbn]
        · simp [e1, e2]
    rw [he]
    exact hq _ _ (.row b' (n + m) cap' pre' (cells ++ cs) sp' hgb (by simp [hl, hcs, Nat.add_mul]) hcap)
theorem Own.freeze {sz n : Nat} {g h : Heap} {v : AV} {cells : List AV} (ho : Own sz g v cells n h) : Le v h (.ro cells n) g := by
  cases ho with
  | nil => exact Le.nils
  | row b n cap pre cells sp hb hl hc => exact Le.freeze hb fun e => by subst e; exact List.eq_nil_of_length_eq_zero (by simpa using hl)
theorem Own.arg {sz n : Nat} {g h : Heap} {v : AV} {cells : List AV} (ho : Own sz g v cells n h) : Arg1 h v (.ro cells n) := by
  cases ho with
  | nil => exact Arg1.nils _
  | row b n cap pre cells sp hb hl hc => exact Arg1.row (upd_same _ _ _) fun e => by subst e; exact List.eq_nil_of_length_eq_zero (by simpa using hl)
/-- A block that nothing needs any more is passed over. -/
theorem Own.drop {sz n : Nat} {g h : Heap} {v : AV} {cells : List AV} {c : Nat} {x : Blk} (ho : Own sz (Ab.upd g c x) v cells n h) (hc : g c = none) : ∃ h1, Sub h1 h ∧ Own sz g v cells n h1 := by
  cases ho with
  | nil => exact ⟨g, (Sub.refl g).alloc hc, .nil⟩
  | row b n cap pre cells sp hb hl hcap => exact ⟨_, ((Sub.refl g).alloc hc).upd, .row b n cap pre cells sp (upd_none hb).2 hl hcap⟩
theorem Own.one {sz n : Nat} {g h : Heap} {v : AV} {cells : List AV} (ho : Own sz g v cells n h) : cellsOf v = some [v] := by
  cases ho <;> rfl
attribute [push_cast] upd_same upd_upd
end Go.Ab
