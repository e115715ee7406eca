/- A frame for walks over what values stand for, part Ab9. -/
import Derived.Test.YtknamhmjhmdikaaAb8
import Derived.LoopN
import Derived.Defers
import Derived.LoopNIn
import Derived.DefersIn
import Derived.RangeFuncLeaves
namespace Go.Ab
section
variable {P : Program} {G : Glo}
/-- Where a walk began: the world, and the calls that are deferred. -/
abbrev W0 := World × List Deferred
/-- An activation and a world are as they are told. -/
structure Sim (G : Glo) (w0 : W0) (h0 : Heap) (N : Nat) (ρ : Env) (h : Heap) (a : Act) (w : World) : Prop where
  nd : a.defers = w0.2
  sz : a.tmps.size = N
  env : ERep w h.dom ρ a
  heap : HRep w h
  glo : GRep G w h.dom
  fr : Fr w0.1 h0 w h
theorem wanted_of {o : Oper} {ops : Array Oper} {ao : AOp} {N : Nat} (ht' : trOp P N ops o = some ao.bare) :
    trK P o.op = some ao.k.bare ∧ ao.d = o.dst ∧ (∀ d, o.dst = some d → d < N) ∧
      ((o.guard = none ∧ ao.g = none) ∨ ∃ j want s, o.guard = some (j, want) ∧ (ops[j]?).bind (·.dst) = some s ∧ ao.g = some (s, want)) := by
  have key : ∀ bo : AOp, trOp P N ops o = some bo → trK P o.op = some bo.k ∧ bo.d = o.dst ∧ (∀ d, o.dst = some d → d < N) ∧
      ((o.guard = none ∧ bo.g = none) ∨ ∃ j want s, o.guard = some (j, want) ∧ (ops[j]?).bind (·.dst) = some s ∧ bo.g = some (s, want)) := by
   intro ao ht
   unfold trOp at ht
   split at ht
   · rename_i k g hk hg
     have h1 : ao.k = k ∧ ao.d = o.dst ∧ (∀ d, o.dst = some d → d < N) ∧ ao.g = g := by
       split at ht
       · rename_i d e
         split at ht
         · rename_i hlt
           cases ht
           refine ⟨rfl, e.symm, ?_, rfl⟩
           intro d' h'
           rw [e] at h'
           cases h'
           exact hlt
         · cases ht
       · rename_i e
         cases ht
         exact ⟨rfl, e.symm, by simp [e], rfl⟩
     refine ⟨by rw [h1.1]; exact hk, h1.2.1, h1.2.2.1, ?_⟩
     unfold trG at hg
     split at hg
     · rename_i e
       cases hg
       exact .inl ⟨e, h1.2.2.2⟩
     · rename_i j want e
       split at hg
       · rename_i s hs
         cases hg
         exact .inr ⟨j, want, s, e, hs, h1.2.2.2⟩
       · cases hg
   · cases ht
  exact key ao.bare ht'
theorem gd_sound {O : Nat → Prop} {w : World} {o : Oper} {ops : Array Oper} {ao : AOp} {ρ : Env} {a : Act} {yes no : Prop}
    (hg : (o.guard = none ∧ ao.g = none) ∨ ∃ j want s, o.guard = some (j, want) ∧ (ops[j]?).bind (·.dst) = some s ∧ ao.g = some (s, want))
    (he : ∀ s want, ao.g = some (s, want) → Rep w O (lk ρ s) (a.tmps.getD s undef)) (h : gd ao.g ρ yes no) :
    (Region.wanted o (yielded ops a.tmps) = true ∧ yes) ∨ (Region.wanted o (yielded ops a.tmps) = false ∧ no) := by
  rcases hg with ⟨h1, h2⟩ | ⟨j, want, s, h1, h2, h3⟩
  · rw [h2] at h
    exact .inl ⟨by simp [Region.wanted, h1], h⟩
  · have hr := he s want h3
    rw [h3] at h
    simp only [gd] at h
    have hget : ∀ v : Value, a.tmps.getD s undef = v → v ≠ undef → a.tmps[s]? = some v := by
      intro v hv hne
      rw [Array.getD_eq_getD_getElem?] at hv
      cases e : a.tmps[s]? with
      | none => rw [e] at hv; exact absurd hv.symm hne
      | some x => rw [e] at hv; simp at hv; rw [hv]
    split at h
    · rename_i b e
      rw [e] at hr
      have hv := hget _ (rep_bool hr) (by simp [undef])
      by_cases hb : b = want
      · refine .inl ⟨?_, h.1 hb⟩
        simp [Region.wanted, h1, yielded, h2, hv, hb]
      · refine .inr ⟨?_, h.2 hb⟩
        simp [Region.wanted, h1, yielded, h2, hv, hb]
    · rename_i e
      rw [e] at hr
      obtain ⟨cs, hc, _⟩ := rep_tup hr
      refine .inr ⟨?_, h⟩
      have hy : yielded ops a.tmps j = none := by
        unfold yielded
        rw [h2]
        simp only [Option.bind_some]
        split
        · rename_i b hb
          have : a.tmps.getD s undef = .bool b := by rw [Array.getD_eq_getD_getElem?, hb]; rfl
          rw [hc] at this
          cases this
        · rfl
      simp [Region.wanted, h1, hy]
    · exact h.elim
theorem put_size (a : Act) (d : Option Nat) (v : Value) : (a.put d v).tmps.size = a.tmps.size := by cases d <;> simp [Act.put]
theorem put_nd (a : Act) (d : Option Nat) (v : Value) : (a.put d v).defers = a.defers := by cases d <;> rfl
/-- One operation, in the text's order. -/
theorem op_sound {w0 : W0} {h0 : Heap} {N : Nat} {ops : Array Oper} {o : Oper} {ao : AOp} (ht : trOp P N ops o = some ao.bare) {ρ : Env} {h : Heap} {a : Act} {w : World} (hs : Sim G w0 h0 N ρ h a w)
    {K : Env → Heap → Prop} (hq : gd ao.g ρ (stp P G ao.k ρ h fun v h' => K (put ao.d v ρ) h') (K (put ao.d (.tup []) ρ) h)) {next : Act → World → Prop} {R : Exit → Act → World → Prop}
    (hn : ∀ ρ' h' a' w', K ρ' h' → Sim G w0 h0 N ρ' h' a' w' → next a' w') {ro : Option Nat} :
    (Region.wanted o (yielded ops a.tmps) = true ∧ o.wpIn (FR ro) 0 P a w next R) ∨ (Region.wanted o (yielded ops a.tmps) = false ∧ next (a.put o.dst undef) w) := by
  obtain ⟨hk, hd, hN, hg⟩ := wanted_of ht
  have hdl : ∀ i, ao.d = some i → i < a.tmps.size := fun i hi => by rw [hs.sz]; exact hN i (by rw [← hd]; exact hi)
  have hx : ∀ x : Operand, Rep w h.dom (xv G ρ x) (a.eval x) := fun x => rep_xv hs.glo hs.env x
  rcases gd_sound (w := w) (O := h.dom) hg (fun s _ _ => hs.env s) hq with ⟨hw, hy⟩ | ⟨hw, hno⟩
  · refine .inl ⟨hw, ?_⟩
    unfold stp at hy
    split at hy
    · rename_i k e
      rw [e] at hk
      change trK P o.op = some (.r k) at hk
      split at hy
      · rename_i v hv
        obtain ⟨c, h1, h2⟩ := evR_sound o hk hs.heap (fun x _ => hx x) hv
        refine wpIn_run (fun c e => by rw [e] at hk; cases hk) ?_
        rw [h1, Oper.uponIn_value, ← hd]
        exact hn _ _ _ _ hy ⟨by rw [put_nd]; exact hs.nd, by rw [put_size]; exact hs.sz, hs.env.put hdl h2, hs.heap, hs.glo, hs.fr⟩
      · exact hy.elim
    · rename_i k e
      rw [e] at hk
      refine stE_sound o hk hs.heap hs.glo (fun x _ => hx x) hy ?_
      intro c w' av h' q1 q2 q3 q4
      rw [← hd]
      exact hn _ _ _ _ q1 ⟨by rw [put_nd]; exact hs.nd, by rw [put_size]; exact hs.sz, (hs.env.keep q4.keeps).put hdl q3, q2, hs.glo.keep q4.keeps, hs.fr.trans q4⟩
  · refine .inr ⟨hw, ?_⟩
    rw [← hd]
    exact hn _ _ _ _ hno ⟨by rw [put_nd]; exact hs.nd, by rw [put_size]; exact hs.sz, hs.env.put hdl rep_undef, hs.heap, hs.glo, hs.fr⟩
theorem mapM_get {α β : Type} {f : α → Option β} : ∀ {l : List α} {m : List β}, l.mapM f = some m → l.length = m.length ∧ ∀ (i : Nat) x, l[i]? = some x → ∃ y, m[i]? = some y ∧ f x = some y := by
  intro l
  induction l with
  | nil => intro m h; simp at h; subst h; exact ⟨rfl, fun i x h => by simp at h⟩
  | cons a r ih =>
    intro m h
    simp only [List.mapM_cons, Option.bind_eq_bind, Option.bind_eq_some_iff] at h
    obtain ⟨b, hb, s, hs, hm⟩ := h
    cases hm
    obtain ⟨h1, h2⟩ := ih hs
    refine ⟨by simp [h1], fun i x hx => ?_⟩
    cases i with
    | zero => simp at hx; subst hx; exact ⟨b, rfl, hb⟩
    | succ i => exact h2 i x (by simpa using hx)
theorem reg_sound {w0 : W0} {h0 : Heap} {N : Nat} {ops : Array Oper} {aops : List AOp} (ht : ops.toList.mapM (trOp P N ops) = some (aops.map AOp.bare)) {R : Exit → Act → World → Prop} {K : Env → Heap → Prop}
    (hR : ∀ ρ h a w, K ρ h → Sim G w0 h0 N ρ h a w → R .normal a w) {ro : Option Nat} :
    ∀ (n k : Nat) (ρ : Env) (h : Heap) (a : Act) (w : World), k + n = ops.size → Sim G w0 h0 N ρ h a w → rwp P G (aops.drop k) ρ h K → wpOpsIn (FR ro) 0 P ops R (List.range' k n) a w := by
  obtain ⟨hl, hg⟩ := mapM_get ht
  intro n
  induction n with
  | zero =>
    intro k ρ h a w hk hs hq
    have : aops.drop k = [] := List.drop_eq_nil_of_le (by rw [List.length_map] at hl; rw [← hl]; simp; omega)
    rw [this] at hq
    exact hR ρ h a w hq hs
  | succ n ih =>
    intro k ρ h a w hk hs hq
    have hlt : k < ops.size := by omega
    obtain ⟨bo, hbo, hto⟩ := hg k ops[k] (by simp [hlt])
    rw [List.getElem?_map] at hbo
    obtain ⟨ao, hao, rfl⟩ := Option.map_eq_some_iff.1 hbo
    have hd : aops.drop k = ao :: aops.drop (k + 1) := by
      have hlt' := (List.getElem?_eq_some_iff.1 hao).1
      rw [List.drop_eq_getElem_cons hlt', (List.getElem?_eq_some_iff.1 hao).2]
    rw [hd] at hq
    simp only [rwp] at hq
    rw [List.range'_succ]
    simp only [wpOpsIn, Array.getElem?_eq_getElem hlt]
    rcases op_sound (next := wpOpsIn (FR ro) 0 P ops R (List.range' (k + 1) n)) (R := R) hto hs (K := fun ρ' h' => rwp P G (aops.drop (k + 1)) ρ' h' K) hq (fun ρ' h' a' w' q s => ih (k + 1) ρ' h' a' w' (by omega) s q) with ⟨hw, hy⟩ | ⟨hw, hno⟩
    · rw [if_pos hw]; exact hy
    · rw [if_neg (by rw [hw]; simp)]; exact ⟨fun _ _ => trivial, hno⟩

/-- The code, walked: from what is known ahead of it to what is known behind it. -/
def Wp (P : Program) (G : Glo) (N : Nat) (ac : ACode) (ρ : Env) (h : Heap) (Q : Exit → Env → Heap → Prop) : Prop :=
  ∀ (ro : Option Nat) c, trC P N c = some ac.bare → ∀ w0 h0 a w, Sim G w0 h0 N ρ h a w →
    c.wpIn (FR ro) 0 P (fun e a' w' => ∃ ρ' h', Q e ρ' h' ∧ Sim G w0 h0 N ρ' h' a' w') a w
theorem Wp.mono {N : Nat} {ac : ACode} {ρ : Env} {h : Heap} {Q Q' : Exit → Env → Heap → Prop} (hw : Wp P G N ac ρ h Q) (hq : ∀ e ρ' h', Q e ρ' h' → Q' e ρ' h') : Wp P G N ac ρ h Q' :=
  fun ro c hc w0 h0 a w hs => wpIn_mono (hw ro c hc w0 h0 a w hs) fun _ _ _ ⟨ρ', h', x, y⟩ => ⟨ρ', h', hq _ _ _ x, y⟩
theorem Wp.weak {N : Nat} {ac : ACode} {ρ ρ1 : Env} {h h1 : Heap} {Q : Exit → Env → Heap → Prop} (hw : Wp P G N ac ρ1 h1 Q)
    (hs : ∀ w0 h0 a w, Sim G w0 h0 N ρ h a w → Sim G w0 h0 N ρ1 h1 a w) : Wp P G N ac ρ h Q :=
  fun ro c hc w0 h0 a w s => hw ro c hc w0 h0 a w (hs w0 h0 a w s)
section rules
variable {N : Nat} {ρ : Env} {h : Heap} {Q : Exit → Env → Heap → Prop}
theorem inv_any {c : Code} {ac : ACode} (hc : trC P N c = some ac) :
    match ac with
    | .skip => c = .skip
    | .ret => c = .ret
    | .exit id => c = .exit id
    | .seq _ x y => ∃ a b, c = .seq a b ∧ trC P N a = some x ∧ trC P N b = some y
    | .cond o x y => ∃ a b, c = .cond o a b ∧ trC P N a = some x ∧ trC P N b = some y
    | .block id x => ∃ a, c = .block id a ∧ trC P N a = some x
    | .loop x => ∃ a, c = .loop a ∧ trC P N a = some x
    | .scp x => ∃ a, c = .scope a ∧ trC P N a = some x
    | .lab => ∃ l, c = .label l
    | .reg l => ∃ id ops, c = .region id ops false ∧ ops.toList.mapM (trOp P N ops) = some l
    | .fz _ _ | .wk _ _ | .dregt _ _ _ => True
    | .dreg l es _ => ∃ id ops, c = .region id ops true ∧ ops.toList.mapM (trOp P N ops) = some l ∧ es = ops.toList.map edgesOf := by
  cases c
  case skip => cases hc; rfl
  case ret => cases hc; rfl
  case exit id => cases hc; rfl
  case seq a b =>
    simp only [trC] at hc
    split at hc
    · rename_i x y h1 h2; cases hc; exact ⟨a, b, rfl, h1, h2⟩
    · cases hc
  case cond o a b =>
    simp only [trC] at hc
    split at hc
    · rename_i x y h1 h2; cases hc; exact ⟨a, b, rfl, h1, h2⟩
    · cases hc
  case block id a =>
    simp only [trC] at hc
    split at hc
    · rename_i x h1; cases hc; exact ⟨a, rfl, h1⟩
    · cases hc
  case loop a =>
    simp only [trC] at hc
    split at hc
    · rename_i x h1; cases hc; exact ⟨a, rfl, h1⟩
    · cases hc
  case scope a =>
    simp only [trC] at hc
    split at hc
    · rename_i x h1; cases hc; exact ⟨a, rfl, h1⟩
    · cases hc
  case label l =>
    cases hc; exact ⟨l, rfl⟩
  case region id ops d =>
    cases d
    · simp only [trC] at hc
      split at hc
      · rename_i x h1; cases hc; exact ⟨id, ops, rfl, h1⟩
      · cases hc
    · simp only [trC] at hc
      split at hc
      · rename_i x h1; cases hc; exact ⟨id, ops, rfl, h1, rfl⟩
      · cases hc
  all_goals (simp only [trC] at hc; cases hc)
theorem Wp.skip (hq : Q .normal ρ h) : Wp P G N .skip ρ h Q := by
  intro ro c hc w0 h0 a w hs
  have e : c = .skip := inv_any hc
  subst e
  exact wpIn_skip ⟨ρ, h, hq, hs⟩
theorem Wp.ret (hq : Q .ret ρ h) : Wp P G N .ret ρ h Q := by
  intro ro c hc w0 h0 a w hs
  have e : c = .ret := inv_any hc
  subst e
  exact wpIn_ret ⟨ρ, h, hq, hs⟩
theorem Wp.exit {id : Nat} (hq : Q (.exit id) ρ h) : Wp P G N (.exit id) ρ h Q := by
  intro ro c hc w0 h0 a w hs
  have e : c = .exit id := inv_any hc
  subst e
  exact wpIn_exit ⟨ρ, h, hq, hs⟩
def keep (ks : List Nat) (ρ : Env) : Env := ks.map fun i => (i, lk ρ i)
theorem lk_keep (ks : List Nat) (ρ : Env) (i : Nat) : lk (keep ks ρ) i = lk ρ i ∨ lk (keep ks ρ) i = .any := by
  induction ks with
  | nil => exact .inr rfl
  | cons k ks ih =>
    simp only [keep, List.map_cons, lk]
    by_cases e : i = k
    · subst e; simp
    · have hb : (i == k) = false := by simpa using e
      rw [hb]
      exact ih
theorem Sim.less {w0 : W0} {h0 : Heap} {ρ1 : Env} {a : Act} {w : World} (hs : Sim G w0 h0 N ρ h a w) (hl : ∀ i, lk ρ1 i = lk ρ i ∨ lk ρ1 i = .any) : Sim G w0 h0 N ρ1 h a w :=
  ⟨hs.nd, hs.sz, fun i => by rcases hl i with e | e; rw [e]; exact hs.env i; rw [e]; exact .any _, hs.heap, hs.glo, hs.fr⟩
theorem Sim.forget {w0 : W0} {h0 h1 : Heap} {a : Act} {w : World} (hs : Sim G w0 h0 N ρ h a w) (hle : ∀ b x, h1 b = some x → h b = some x) : Sim G w0 h0 N ρ h1 a w :=
  have ⟨k1, k2⟩ := hrep_less hs.heap hle
  ⟨hs.nd, hs.sz, hs.env.keep k2.keeps, k1, hs.glo.keep k2.keeps, hs.fr.trans k2⟩
/-- What a part of the code leaves for the next one: the slots that are named. -/
def thn (ks : List Nat) (K : Env → Heap → Prop) (Q : Exit → Env → Heap → Prop) : Exit → Env → Heap → Prop
  | .normal, ρ, h => K (keep ks ρ) h
  | e, ρ, h => Q e ρ h
theorem Wp.seq {ks : List Nat} {x y : ACode} (hq : Wp P G N x ρ h (thn ks (fun ρ' h' => Wp P G N y ρ' h' Q) Q)) : Wp P G N (.seq ks x y) ρ h Q := by
  intro ro c hc w0 h0 a w hs
  obtain ⟨c1, c2, rfl, h1, h2⟩ := inv_any hc
  refine wpIn_seq (wpIn_mono (hq ro c1 h1 w0 h0 a w hs) ?_)
  rintro e a' w' ⟨ρ', h', q, s⟩
  cases e with
  | normal => exact q ro c2 h2 w0 h0 a' w' (s.less (lk_keep ks ρ'))
  | exit id => exact ⟨ρ', h', q, s⟩
  | goto l => exact ⟨ρ', h', q, s⟩
  | ret => exact ⟨ρ', h', q, s⟩
  | panic ch => exact ⟨ρ', h', q, s⟩
  | outgrown => exact ⟨ρ', h', q, s⟩
theorem Wp.cond {o : Operand} {x y : ACode} {b : Bool} (ho : xv G ρ o = .bool b) (hy : b = true → Wp P G N x ρ h Q) (hn : b = false → Wp P G N y ρ h Q) : Wp P G N (.cond o x y) ρ h Q := by
  intro ro c hc w0 h0 a w hs
  obtain ⟨c1, c2, rfl, h1, h2⟩ := inv_any hc
  have hr := rep_xv hs.glo hs.env o
  rw [ho] at hr
  refine wpIn_cond_split (rep_bool hr) (fun e => hy e ro c1 h1 w0 h0 a w hs) (fun e => hn e ro c2 h2 w0 h0 a w hs)
theorem stepR_scope {P : Program} {b : Frame} {a : Act} {k : List Item} {cs : List Frame} {w : World} {c : Code} : step P (lone (b.atR a (.code (.scope c) :: k)) cs w) = .next (lone (b.atR a (.code c :: .inScope c :: k)) cs w) :=
  step_lone_go (by simp [stepG, stepG.exec, Frame.atR])
theorem stepR_inScope {P : Program} {b : Frame} {a : Act} {k : List Item} {cs : List Frame} {w : World} {c : Code} : step P (lone (b.atR a (.inScope c :: k)) cs w) = .next (lone (b.atR a k) cs w) :=
  step_lone_go (by simp [stepG, stepG.exec, Frame.atR])
/-- A scope whose body goes to no label. -/
theorem wpIn_scope {F : Fence} {n : Nat} {P : Program} {Q : Exit → Act → World → Prop} {a : Act} {w : World} {c : Code} (h : c.wpIn F n P (fun e a w => (∀ l, e ≠ .goto l) ∧ Q e a w) a w) : (Code.scope c).wpIn F n P Q a w := by
  intro b k cs hro hb hr
  have h0 : (lone (b.atR a (.code (.scope c) :: k)) cs w).fenced P F := fenced_calm hb hr rfl
  obtain ⟨e, a₁, w₁, ⟨hng, hq⟩, harr⟩ := h b (.inScope c :: k) cs hro hb hr
  cases e with
  | normal => exact ⟨.normal, a₁, w₁, hq, .head h0 stepR_scope (StepsIn.trans harr (.one (fenced_calm hb hr rfl) stepR_inScope))⟩
  | exit id' =>
    have hx : exitTo id' (.inScope c :: k) = exitTo id' k := by simp [exitTo]
    exact ⟨.exit id', a₁, w₁, hq, fun k' hk => .head h0 stepR_scope (harr.1 k' (by rw [hx]; exact hk)),
      fun hr' hk => let ⟨k₁, h1, h2⟩ := harr.2 hr' (by rw [hx]; exact hk); ⟨k₁, h1, .head h0 stepR_scope h2⟩⟩
  | goto l => exact absurd rfl (hng l)
  | ret => exact ⟨_, a₁, w₁, hq, .of_steps (.one h0 stepR_scope) harr⟩
  | panic ch => exact ⟨_, a₁, w₁, hq, .of_steps (.one h0 stepR_scope) harr⟩
  | outgrown => exact ⟨_, a₁, w₁, hq, .of_steps (.one h0 stepR_scope) harr⟩
def scQ (Q : Exit → Env → Heap → Prop) : Exit → Env → Heap → Prop
  | .goto _, _, _ => False
  | e, ρ, h => Q e ρ h
theorem Wp.scp {x : ACode} (hq : Wp P G N x ρ h (scQ Q)) : Wp P G N (.scp x) ρ h Q := by
  intro ro c hc w0 h0 a w hs
  obtain ⟨c1, rfl, h1⟩ := inv_any hc
  refine wpIn_scope (wpIn_mono (hq ro c1 h1 w0 h0 a w hs) ?_)
  rintro e a' w' ⟨ρ', h', q, s⟩
  cases e <;> simp only [scQ] at q
  all_goals first | exact q.elim | exact ⟨fun l e => (by cases e), ρ', h', q, s⟩
theorem Wp.lab (hq : Q .normal ρ h) : Wp P G N .lab ρ h Q := by
  intro ro c hc w0 h0 a w hs
  obtain ⟨l, rfl⟩ := inv_any hc
  exact wpIn_label ⟨ρ, h, hq, hs⟩
def blk (id : Nat) (Q : Exit → Env → Heap → Prop) : Exit → Env → Heap → Prop
  | .exit id', ρ, h => if id' = id then Q .normal ρ h else Q (.exit id') ρ h
  | e, ρ, h => Q e ρ h
theorem Wp.block {id : Nat} {x : ACode} (hq : Wp P G N x ρ h (blk id Q)) : Wp P G N (.block id x) ρ h Q := by
  intro ro c hc w0 h0 a w hs
  obtain ⟨c1, rfl, h1⟩ := inv_any hc
  refine wpIn_block (wpIn_mono (hq ro c1 h1 w0 h0 a w hs) ?_)
  rintro e a' w' ⟨ρ', h', q, s⟩
  cases e with
  | exit id' =>
    simp only [blk] at q
    simp only [Exit.inBlock]
    split
    · rename_i e; rw [if_pos e] at q; exact ⟨ρ', h', q, s⟩
    · rename_i e; rw [if_neg e] at q; exact ⟨ρ', h', q, s⟩
  | normal => exact ⟨ρ', h', q, s⟩
  | goto l => exact ⟨ρ', h', q, s⟩
  | ret => exact ⟨ρ', h', q, s⟩
  | panic ch => exact ⟨ρ', h', q, s⟩
  | outgrown => exact ⟨ρ', h', q, s⟩
theorem Wp.reg {ops : List AOp} (hq : rwp P G ops ρ h fun ρ' h' => Q .normal ρ' h') : Wp P G N (.reg ops) ρ h Q := by
  intro ro c hc w0 h0 a w hs
  obtain ⟨id, l, rfl, h1⟩ := inv_any hc
  refine wpIn_region ?_
  rw [List.range_eq_range']
  exact reg_sound h1 (R := fun e a' w' => ∃ ρ' h', Q e ρ' h' ∧ Sim G w0 h0 N ρ' h' a' w') (K := fun ρ' h' => Q .normal ρ' h') (fun ρ' h' a' w' q s => ⟨ρ', h', q, s⟩) l.size 0 ρ h a w (by omega) hs hq
/-- The body of a loop, a number of rounds at most. -/
def Lp (P : Program) (G : Glo) (N : Nat) (x : ACode) (Q : Exit → Env → Heap → Prop) (n : Nat) (ρ : Env) (h : Heap) : Prop :=
  ∀ (ro : Option Nat) c, trC P N c = some x.bare → ∀ w0 h0 a w, Sim G w0 h0 N ρ h a w → Code.roundsIn (FR ro) 0 P c (fun e a' w' => ∃ ρ' h', Q e ρ' h' ∧ Sim G w0 h0 N ρ' h' a' w') n a w
theorem Lp.succ {x : ACode} {n : Nat} (ks : List Nat) (hq : Wp P G N x ρ h (thn ks (fun ρ' h' => Lp P G N x Q n ρ' h') Q)) : Lp P G N x Q (n + 1) ρ h := by
  intro ro c hc w0 h0 a w hs
  rw [roundsIn_succ]
  refine wpIn_mono (hq ro c hc w0 h0 a w hs) ?_
  rintro e a' w' ⟨ρ', h', q, s⟩
  cases e with
  | normal => exact q ro c hc w0 h0 a' w' (s.less (lk_keep ks ρ'))
  | exit id => exact ⟨ρ', h', q, s⟩
  | goto l => exact ⟨ρ', h', q, s⟩
  | ret => exact ⟨ρ', h', q, s⟩
  | panic ch => exact ⟨ρ', h', q, s⟩
  | outgrown => exact ⟨ρ', h', q, s⟩
theorem Lp.weak {x : ACode} {n : Nat} {ρ1 : Env} {h1 : Heap} (hw : Lp P G N x Q n ρ1 h1) (hs : ∀ w0 h0 a w, Sim G w0 h0 N ρ h a w → Sim G w0 h0 N ρ1 h1 a w) : Lp P G N x Q n ρ h :=
  fun ro c hc w0 h0 a w s => hw ro c hc w0 h0 a w (hs w0 h0 a w s)
theorem Wp.loop {x : ACode} (n : Nat) (hq : Lp P G N x Q n ρ h) : Wp P G N (.loop x) ρ h Q := by
  intro ro c hc w0 h0 a w hs
  obtain ⟨c1, rfl, h1⟩ := inv_any hc
  exact wpIn_loop_rounds n (hq ro c1 h1 w0 h0 a w hs)
end rules

/-- A function's result, as its code names it. -/
inductive RV where
  | t (s : Nat)
  | c (s : Nat) (n : Option Nat)
def trRV (P : Program) : ResultVar → Option RV
  | .tmp t => some (.t t)
  | .cell s t => match shapeOf P t with
    | some n => some (.c s n)
    | none => none
def rvOf (ρ : Env) (h : Heap) : RV → Option AV
  | .t s => some (lk ρ s)
  | .c s n => ald h n (lk ρ s)
def resOf (ρ : Env) (h : Heap) (l : List RV) : Option AV :=
  match l.mapM (rvOf ρ h) with
  | some [v] => some v
  | some vs => some (.tup vs)
  | none => none
def retQ (rs : List RV) (Q : AV → Heap → Prop) : Exit → Env → Heap → Prop
  | .normal, ρ, h | .ret, ρ, h => match resOf ρ h rs with
    | some r => Q r h
    | none => False
  | _, _, _ => False
def argEnv (args : List AV) : Env := args.zipIdx.map fun (v, i) => (i, v)
theorem lk_argEnv : ∀ (args : List AV) (k i : Nat), lk ((args.zipIdx k).map fun (v, i) => (i, v)) i = if k ≤ i then (args[i - k]?).getD .any else .any := by
  intro args
  induction args with
  | nil => intro k i; simp [lk]
  | cons a r ih =>
    intro k i
    simp only [List.zipIdx_cons, List.map_cons, lk]
    by_cases e : i = k
    · subst e; simp
    · have hb : (i == k) = false := by simpa using e
      rw [hb]
      simp only [cond_false]
      rw [ih (k + 1) i]
      by_cases hk : k ≤ i
      · rw [if_pos (by omega), if_pos hk]
        obtain ⟨j, hj⟩ : ∃ j, i - k = j + 1 := ⟨i - k - 1, by omega⟩
        rw [hj, List.getElem?_cons_succ, show i - (k + 1) = j by omega]
      · rw [if_neg (by omega), if_neg hk]
theorem arg_sim {N : Nat} {args : List AV} {vs : List Value} {h : Heap} {w : World} (h1 : HRep w h) (h2 : GRep G w h.dom) (h3 : RepL w h.dom args vs) (hn : args.length ≤ N) :
    Sim G (w, []) h N (argEnv args) h { tmps := vs.toArray ++ Array.replicate (N - vs.toArray.size) undef, defers := [] } w := by
  refine ⟨rfl, by have := h3.1; simp; omega, fun i => ?_, h1, h2, Fr.refl _ _⟩
  unfold argEnv
  rw [lk_argEnv, if_pos (Nat.zero_le _), Nat.sub_zero]
  cases e : args[i]? with
  | none => exact .any _
  | some v =>
    have hlt : i < args.length := (List.getElem?_eq_some_iff.1 e).1
    have hv : vs[i]? = some (vs[i]'(by have := h3.1; omega)) := List.getElem?_eq_getElem _
    have := h3.2 i v _ e hv
    simp only [Option.getD_some]
    rw [Array.getD_eq_getD_getElem?, Array.getElem?_append_left (by have := h3.1; simp; omega)]
    simp only [List.getElem?_toArray, hv, Option.getD_some]
    exact this
/-- The results, read. -/
theorem res_sound {fn : Func} {rs : List RV} (hr : fn.results.toList.mapM (trRV P) = some rs) {ρ' : Env} {h' : Heap} {a' : Act} {w' : World} (hh : HRep w' h') (he : ERep w' h'.dom ρ' a') {Q : AV → Heap → Prop}
    (q : match resOf ρ' h' rs with | some r => Q r h' | none => False) : ∃ v r, (results fn a'.tmps).run P w' = .ok v w' ∧ Q r h' ∧ Rep w' h'.dom r v := by
  have key : ∀ (l : List ResultVar) (rs : List RV) (vs : List AV), l.mapM (trRV P) = some rs → rs.mapM (rvOf ρ' h') = some vs →
      ∃ cs : List Value, (l.mapM fun (x : ResultVar) => match x with
        | .tmp t => (pure (a'.tmps.getD t undef) : Sem Value)
        | .cell b t => do loadVar t (← asAddr (a'.tmps.getD b undef))).run P w' = .ok cs w' ∧ RepL w' h'.dom vs cs := by
    intro l
    induction l with
    | nil =>
      intro rs vs h1 h2
      simp at h1
      subst h1
      simp at h2
      subst h2
      exact ⟨[], by simp, .nil⟩
    | cons x r ih =>
      intro rs vs h1 h2
      simp only [List.mapM_cons, Option.bind_eq_bind, Option.bind_eq_some_iff] at h1
      obtain ⟨y, hy, s', hs', hm⟩ := h1
      cases hm
      simp only [List.mapM_cons, Option.bind_eq_bind, Option.bind_eq_some_iff] at h2
      obtain ⟨v, hv, t, ht', hm⟩ := h2
      cases hm
      obtain ⟨cs, e1, e2⟩ := ih s' t hs' ht'
      have one : ∃ c, (match x with
        | .tmp t => (pure (a'.tmps.getD t undef) : Sem Value)
        | .cell b t => do loadVar t (← asAddr (a'.tmps.getD b undef))).run P w' = .ok c w' ∧ Rep w' h'.dom v c := by
        cases x with
        | tmp t =>
          cases hy
          cases hv
          exact ⟨_, rfl, he t⟩
        | cell b t =>
          simp only [trRV] at hy
          split at hy
          · rename_i n hn'
            cases hy
            obtain ⟨c', k1, k2⟩ := ald_sound (P := P) hh hv (he b) hn'
            refine ⟨c', ?_, k2⟩
            show (do loadVar t (← asAddr (a'.tmps.getD b undef)) : Sem Value).run P w' = .ok c' w'
            have he := he b
            simp only [rvOf] at hv
            unfold ald at hv
            split at hv
            · rename_i e
              rw [e] at he
              rw [rep_ptr he] at k1 ⊢
              simpa [Instr.loadAt, Instr.sureAddr, asAddr] using k1
            · rename_i e
              rw [e] at he
              obtain ⟨b', o', _, hc, _⟩ := rep_cp he
              rw [hc] at k1 ⊢
              simpa [Instr.loadAt, Instr.sureAddr, asAddr] using k1
            · cases hv
          · cases hy
      obtain ⟨c, f1, f2⟩ := one
      refine ⟨c :: cs, ?_, e2.cons f2⟩
      simp only [List.mapM_cons, Sem.run_bind, f1, Result.andThen_ok, e1, Sem.run_pure]
  unfold resOf at q
  have fin : ∀ vs, rs.mapM (rvOf ρ' h') = some vs → ∀ r, (match vs with | [v] => v | vs => AV.tup vs) = r → Q r h' →
      ∃ v r, (results fn a'.tmps).run P w' = .ok v w' ∧ Q r h' ∧ Rep w' h'.dom r v := by
    intro vs hvs r hr' hq
    obtain ⟨cs, e1, e2⟩ := key fn.results.toList rs vs hr hvs
    have hm : (fn.results.mapM fun (x : ResultVar) => match x with
        | .tmp t => (pure (a'.tmps.getD t undef) : Sem Value)
        | .cell b t => do loadVar t (← asAddr (a'.tmps.getD b undef))).run P w' = .ok cs.toArray w' := by
      rw [Array.mapM_eq_mapM_toList, Sem.run_map, e1]
      rfl
    have hrun : (results fn a'.tmps).run P w' = .ok (if hh : cs.toArray.size = 1 then cs.toArray[0] else .tuple cs.toArray) w' := by
      unfold results
      rw [Sem.run_bind]
      exact congrArg (fun r => Result.andThen r fun vs w' => Result.ok (if hh : vs.size = 1 then vs[0] else .tuple vs) w') hm
    refine ⟨_, r, hrun, hq, ?_⟩
    have hlen := e2.1
    split
    · rename_i h1
      obtain ⟨c, rfl⟩ : ∃ c, cs = [c] := List.length_eq_one_iff.1 (by simpa using h1)
      obtain ⟨v, rfl⟩ : ∃ v, vs = [v] := List.length_eq_one_iff.1 (by simpa using hlen)
      subst hr'
      exact e2.2 0 v c rfl rfl
    · rename_i h1
      have hne : vs.length ≠ 1 := by simp at h1; omega
      have : r = .tup vs := by
        match vs, hne, hr' with
        | [], _, hr' => exact hr'.symm
        | [_], hne, _ => exact absurd rfl hne
        | _ :: _ :: _, _, hr' => exact hr'.symm
      rw [this]
      exact .tup _ _ (by simpa using hlen) (fun i v c hv hc => e2.2 i v c hv (by simpa using hc))
  split at q
  · rename_i r hres
    split at hres
    · rename_i v hvs
      cases hres
      exact fin _ hvs _ rfl q
    · rename_i vs hne hvs
      cases hres
      refine fin vs hvs _ ?_ q
      split
      · rename_i v
        exact absurd rfl (hne v)
      · rfl
    · cases hres
  · exact q.elim
theorem body_wp {fn : Func} {c : Code} {ac : ACode} {rs : List RV} {args : List AV} {h : Heap} {Q : AV → Heap → Prop}
    (ht : trC P fn.ntmps c = some ac.bare) (hr : fn.results.toList.mapM (trRV P) = some rs) (hn : args.length ≤ fn.ntmps) (hw : Wp P G fn.ntmps ac (argEnv args) h (retQ rs Q))
    {w : World} {vs : List Value} (h1 : HRep w h) (h2 : GRep G w h.dom) (h3 : RepL w h.dom args vs) :
    c.wp P (bodyPost P fn fun e w' => ∃ v r h', e = .returned v ∧ Q r h' ∧ HRep w' h' ∧ Rep w' h'.dom r v ∧ Fr w h w' h') { tmps := vs.toArray ++ Array.replicate (fn.ntmps - vs.toArray.size) undef, defers := [] } w := by
  refine (wpIn_wide (n := 0)).1 (wpIn_mono (hw none c ht (w, []) h _ w (arg_sim h1 h2 h3 hn)) ?_)
  rintro e a' w' ⟨ρ', h', q, s⟩
  cases e with
  | normal =>
    obtain ⟨v, r, e1, e2, e3⟩ := res_sound (Q := Q) hr s.heap s.env q
    exact ⟨s.nd, v, e1, v, r, h', rfl, e2, s.heap, e3, s.fr⟩
  | ret =>
    obtain ⟨v, r, e1, e2, e3⟩ := res_sound (Q := Q) hr s.heap s.env q
    exact ⟨s.nd, v, e1, v, r, h', rfl, e2, s.heap, e3, s.fr⟩
  | exit id => exact q.elim
  | goto l => exact q.elim
  | panic ch => exact q.elim
  | outgrown => exact q.elim
theorem Spec.of_body {f : FuncId} {fn : Func} {c : Code} {ac : ACode} {rs : List RV} {args : List AV} {h : Heap} {Q : AV → Heap → Prop} (hf : P.funcs[f]? = some fn) (hb : fn.body = some c)
    (ht : trC P fn.ntmps c = some ac.bare) (hr : fn.results.toList.mapM (trRV P) = some rs) (hn : args.length ≤ fn.ntmps) (hw : Wp P G fn.ntmps ac (argEnv args) h (retQ rs Q)) : Spec P G f args h Q :=
  fun _ _ h1 h2 h3 => calls_of_wp hf hb (body_wp ht hr hn hw h1 h2 h3)
/-- A deferred call's contract. -/
def SpecD (P : Program) (G : Glo) (f : FuncId) (args : List AV) (h : Heap) (Q : AV → Heap → Prop) : Prop :=
  ∀ (w : World) (vs : List Value) (u : FrameMode), HRep w h → GRep G w h.dom → RepL w h.dom args vs →
    CallsD P f vs.toArray u w fun e u' w' => u' = u ∧ ∃ v r h', e = .returned v ∧ Q r h' ∧ HRep w' h' ∧ Rep w' h'.dom r v ∧ Fr w h w' h'
theorem SpecD.of_body {f : FuncId} {fn : Func} {c : Code} {ac : ACode} {rs : List RV} {args : List AV} {h : Heap} {Q : AV → Heap → Prop} (hf : P.funcs[f]? = some fn) (hb : fn.body = some c)
    (ht : trC P fn.ntmps c = some ac.bare) (hr : fn.results.toList.mapM (trRV P) = some rs) (hn : args.length ≤ fn.ntmps) (hw : Wp P G fn.ntmps ac (argEnv args) h (retQ rs Q)) : SpecD P G f args h Q :=
  fun _ _ _ h1 h2 h3 => callsD_of_wp hf hb (body_wp ht hr hn hw h1 h2 h3)
/-- A function that defers one call of a function literal, ahead of the rest of its code. -/
def trD (P : Program) (fn : Func) : Option (ACode × (Nat × Nat × List Operand) × ACode × List RV) :=
  match fn.body with
  | some (.seq a (.seq (.region _ ops false) c)) => match ops.toList with
    | [⟨some d, .makeFunc (.func g) first caps, _, _, _, none⟩, ⟨none, .defer ⟨.value (.tmp d'), args, _⟩, _, _, _, none⟩] =>
      match trC P fn.ntmps a, trC P fn.ntmps c, fn.results.toList.mapM (trRV P), P.funcs[g]? with
      | some x, some y, some rs, some gn => if d = d' ∧ d < fn.ntmps ∧ first.size = 0 ∧ args.size = 0 ∧ gn.body.isSome ∧ (gn.name == "runtime.NumGoroutine") = false then some (x, (d, g, caps.toList), y, rs) else none
      | _, _, _, _ => none
    | _ => none
  | _ => none
/-- What a function must leave that a deferred call goes on from. -/
def defQ (P : Program) (G : Glo) (g : Nat) (vs : List AV) (rs : List RV) (Q : AV → Heap → Prop) : Exit → Env → Heap → Prop
  | .normal, ρ, h | .ret, ρ, h => SpecD P G g vs h fun _ h1 => match resOf ρ h1 rs with
    | some r => Q r h1
    | none => False
  | _, _, _ => False
def midQ (P : Program) (G : Glo) (N d g : Nat) (caps : List Operand) (y : ACode) (rs : List RV) (Q : AV → Heap → Prop) : Exit → Env → Heap → Prop
  | .normal, ρ, h => Wp P G N y (put (some d) (.fn g [] (caps.map (xv G ρ))) ρ) h (defQ P G g (caps.map (xv G ρ)) rs Q)
  | _, _, _ => False
theorem Spec.of_defer {f : FuncId} {fn : Func} {x y : ACode} {d g : Nat} {caps : List Operand} {rs : List RV} {args : List AV} {h : Heap} {Q : AV → Heap → Prop} (hf : P.funcs[f]? = some fn)
    (ht : trD P fn = some (x.bare, (d, g, caps), y.bare, rs)) (hn : args.length ≤ fn.ntmps) (hw : Wp P G fn.ntmps x (argEnv args) h (midQ P G fn.ntmps d g caps y rs Q)) : Spec P G f args h Q := by
  unfold trD at ht
  split at ht
  · rename_i a id ops c hb
    split at ht
    · rename_i d0 g0 first caps0 ty1 pos1 after1 d1 args0 ats ty2 pos2 after2 hops
      split at ht
      · rename_i x0 y0 rs0 gn hx hy hr hg
        split at ht
        · rename_i hc
          obtain ⟨rfl, hdN, hfi, har, hgb, hgn⟩ := hc
          cases ht
          have efirst : first = #[] := Array.eq_empty_of_size_eq_zero hfi
          have eargs : args0 = #[] := Array.eq_empty_of_size_eq_zero har
          subst efirst
          subst eargs
          obtain rfl : ops = #[⟨some d, .makeFunc (.func g) #[] caps0, ty1, pos1, after1, none⟩, ⟨none, .defer ⟨.value (.tmp d), #[], ats⟩, ty2, pos2, after2, none⟩] := Array.toList_inj.1 (by simpa using hops)
          intro w vs h1 h2 h3
          refine calls_of_wp_defers hf hb (wp_seq ?_)
          refine (wpIn_wide (n := 0)).1 (wpIn_mono (hw none a hx (w, []) h _ w (arg_sim h1 h2 h3 hn)) ?_)
          rintro e a1 w1 ⟨ρ1, hh1, q, s1⟩
          cases e with
          | exit id => exact q.elim
          | goto l => exact q.elim
          | panic ch => exact q.elim
          | outgrown => exact q.elim
          | ret => exact q.elim
          | normal =>
            have q : Wp P G fn.ntmps y (put (some d) (.fn g [] (caps0.toList.map (xv G ρ1))) ρ1) hh1 (defQ P G g (caps0.toList.map (xv G ρ1)) rs Q) := q
            have hcap : RepL w1 hh1.dom (caps0.toList.map (xv G ρ1)) (caps0.map a1.eval).toList := by
              rw [Array.toList_map]
              exact repl_map fun z _ => rep_xv s1.glo s1.env z
            let D : Deferred := { target := .fn (.func g) (caps0.map a1.eval), args := #[] }
            have hfnv : Rep w1 hh1.dom (.fn g [] (caps0.toList.map (xv G ρ1))) (.func (.func g) #[] (caps0.map a1.eval)) :=
              .fn _ _ _ _ _ rfl (by simp) (fun i v c h => by simp at h) (fun i v c hv hc => hcap.2 i v c hv (by simpa using hc))
            have hsz1 : d < a1.tmps.size := by rw [s1.sz]; exact hdN
            refine wp_seq (wp_region ?_)
            show wpOps P _ _ [0, 1] a1 w1
            have e0 : (execOp a1.eval (⟨some d, .makeFunc (.func g) #[] caps0, ty1, pos1, after1, none⟩ : Oper)).run P w1 = .ok (.value (.func (.func g) #[] (caps0.map a1.eval))) w1 := by simp [execOp, Instr.makeFunc]
            let a2 : Act := a1.put (some d) (.func (.func g) #[] (caps0.map a1.eval))
            have hev : a2.eval (.tmp d) = .func (.func g) #[] (caps0.map a1.eval) := by
              simp [a2, Act.eval, Act.put, Array.getD_eq_getD_getElem?, hsz1]
            have e1 : (execOp a2.eval (⟨none, .defer ⟨.value (.tmp d), #[], ats⟩, ty2, pos2, after2, none⟩ : Oper)).run P w1 = .ok (.defer D) w1 := by
              simp only [execOp, resolve, hev, Deferred.ofValue, Sem.run_bind, Sem.run_pure, Result.andThen_ok]
              simp [D]
            have k0 : Region.wanted (⟨some d, .makeFunc (.func g) #[] caps0, ty1, pos1, after1, none⟩ : Oper) (yielded #[⟨some d, .makeFunc (.func g) #[] caps0, ty1, pos1, after1, none⟩, ⟨none, .defer ⟨.value (.tmp d), #[], ats⟩, ty2, pos2, after2, none⟩] a1.tmps) = true := rfl
            have k1 : ∀ tm, Region.wanted (⟨none, .defer ⟨.value (.tmp d), #[], ats⟩, ty2, pos2, after2, none⟩ : Oper) (yielded #[⟨some d, .makeFunc (.func g) #[] caps0, ty1, pos1, after1, none⟩, ⟨none, .defer ⟨.value (.tmp d), #[], ats⟩, ty2, pos2, after2, none⟩] tm) = true := fun _ => rfl
            simp only [wpOps, List.getElem?_toArray, List.getElem?_cons_zero, List.getElem?_cons_succ]
            rw [if_pos k0]
            refine .inl ?_
            unfold Oper.wp
            rw [e0, Oper.upon_value]
            rw [if_pos (k1 _)]
            refine .inl ?_
            rw [e1, Oper.upon_defer]
            show c.wp P _ ({ a2 with defers := D :: a2.defers } : Act) w1
            have hnd : a1.defers = [] := s1.nd
            have s2 : Sim G (w1, [D]) hh1 fn.ntmps (put (some d) (.fn g [] (caps0.toList.map (xv G ρ1))) ρ1) hh1 ({ a2 with defers := D :: a2.defers } : Act) w1 := by
              refine ⟨by show D :: a2.defers = [D]; rw [show a2.defers = a1.defers from rfl, hnd], by show a2.tmps.size = _; rw [show a2.tmps.size = a1.tmps.size by simp [a2, put_size]]; exact s1.sz, ?_, s1.heap, s1.glo, Fr.refl _ _⟩
              exact s1.env.put (fun i hi => by cases hi; exact hsz1) hfnv
            refine (wpIn_wide (n := 0)).1 (wpIn_mono (q none c hy (w1, [D]) hh1 _ w1 s2) ?_)
            rintro e a3 w3 ⟨ρ3, hh3, q3, s3⟩
            have fin : SpecD P G g (caps0.toList.map (xv G ρ1)) hh3 (fun _ hx => match resOf ρ3 hx rs with | some r => Q r hx | none => False) →
                Leaves P fn a3.tmps (fun e w' => ∃ v r h', e = .returned v ∧ Q r h' ∧ HRep w' h' ∧ Rep w' h'.dom r v ∧ Fr w h w' h') a3.defers .returning w3 := by
              intro sd
              rw [s3.nd]
              refine leaves_cons (by simp) (f := g) (args := caps0.map a1.eval) ?_ ?_
              · have h3 : gn.body.isNone = false := by cases e : gn.body <;> simp_all
                simp only [invoke, callFunc, Sem.run_bind, run_program, Result.andThen_ok, hg, hgn, Bool.false_eq_true, if_false, h3]
                simp
              · have hc3 := hcap.keep s3.fr.keeps
                have := sd w3 _ .returning s3.heap s3.glo hc3
                rw [Array.toArray_toList] at this
                refine this.mono ?_
                rintro e u' w4 ⟨rfl, v, r, h4, rfl, q4, m1, m2, m3⟩
                show Leaves P fn a3.tmps _ [] .returning w4
                obtain ⟨v5, r5, e1, e2, e3⟩ := res_sound (Q := Q) (a' := a3) hr m1 (s3.env.keep m3.keeps) q4
                exact ⟨v5, e1, v5, r5, h4, rfl, e2, m1, e3, (s1.fr.trans s3.fr).trans m3⟩
            cases e with
            | normal => exact fin q3
            | ret => exact fin q3
            | exit id => exact q3.elim
            | goto l => exact q3.elim
            | panic ch => exact q3.elim
            | outgrown => exact q3.elim
        · cases ht
      · cases ht
    · cases ht
  · cases ht
end
end Go.Ab
