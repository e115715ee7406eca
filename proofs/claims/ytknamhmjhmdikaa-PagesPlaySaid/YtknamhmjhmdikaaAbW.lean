/- A frame for walks over what values stand for, part AbW: the code, walked by rewriting alone. -/
import Derived.Test.YtknamhmjhmdikaaLib2
namespace Go.Ab
/-- What a slot holds whose operation was wanted only if t. -/
def gvv (t : Bool) (v : AV) : AV := bif t then v else .tup []
def flush (e : Bool) (acc ρ : Env) : Env := acc.map (fun x => (x.1, gvv e x.2)) ++ ρ
inductive Md where
  | u
  | g (s : Nat) (w e : Bool) (acc : Env)
def gval (v : AV) (w : Bool) : Option Bool := match v with
  | .bool b => some (b == w)
  | .tup _ => some false
  | _ => none
def setg (v : AV) (w : Bool) : AV := match v with
  | .bool _ => .bool (!w)
  | v => v
/-- Operations that are done without a bound to be held. -/
def tot : RK → Bool
  | .ixs _ _ _ | .ixa _ _ _ _ | .ixv _ _ _ _ _ | .ixb _ _ | .sls _ _ _ _ | .sla _ _ _ _ _ | .slb _ _ _ | .sls3 _ _ _ _ _ | .lkp _ _ _ _ _ => false
  | _ => true
def bindG (e : Bool) (o : Option AV) (K : AV → Prop) : Prop := (e = true → o.isSome = true) ∧ K (o.getD .any)
section
variable (P : Program) (G : Glo)
def rdK (K : Md → Env → Heap → Prop) (d : Option Nat) (ρ : Env) (h : Heap) (v : AV) : Prop := K .u (put d v ρ) h
def reK (K : Md → Env → Heap → Prop) (d : Option Nat) (ρ : Env) (v : AV) (h : Heap) : Prop := K .u (put d v ρ) h
def opq (o : AOp) (ρ : Env) (h : Heap) (K : Md → Env → Heap → Prop) : Prop := match o.k with
  | .r r => bindO (evR G r ρ h) (rdK K o.d ρ h)
  | .e e => stE P G e ρ h (reK K o.d ρ)
def rgK (K : Md → Env → Heap → Prop) (d : Option Nat) (s : Nat) (w e : Bool) (acc ρ : Env) (h : Heap) (v : AV) : Prop := K (.g s w e (put d v acc)) ρ h
def frk (e : Bool) (yes no : Unit → Prop) : Prop := (e = true → yes ()) ∧ (e = false → no ())
def fyR (o : AOp) (s : Nat) (w : Bool) (acc ρ : Env) (h : Heap) (K : Md → Env → Heap → Prop) (_ : Unit) : Prop := opq P G ⟨o.d, none, o.k⟩ (put s (.bool w) (acc ++ ρ)) h K
def fno (o : AOp) (s : Nat) (w : Bool) (acc ρ : Env) (h : Heap) (K : Md → Env → Heap → Prop) (_ : Unit) : Prop := K .u (put o.d (.tup []) (put s (setg (lk (flush false acc ρ) s) w) (flush false acc ρ))) h
def stepG (s : Nat) (w e : Bool) (acc : Env) (o : AOp) (ρ : Env) (h : Heap) (K : Md → Env → Heap → Prop) : Prop := match o.k with
  | .r r => if tot r = true ∧ o.d ≠ some s then bindG e (evR G r (acc ++ ρ) h) (rgK K o.d s w e acc ρ h) else frk e (fyR P G o s w acc ρ h K) (fno o s w acc ρ h K)
  | .e _ => frk e (fyR P G o s w acc ρ h K) (fno o s w acc ρ h K)
def sgK (o : AOp) (s : Nat) (w : Bool) (ρ : Env) (h : Heap) (K : Md → Env → Heap → Prop) (e : Bool) : Prop := stepG P G s w e [] o ρ h K
def stepU (o : AOp) (ρ : Env) (h : Heap) (K : Md → Env → Heap → Prop) : Prop := match o.g with
  | none => opq P G o ρ h K
  | some (s, w) => bindO (gval (lk ρ s) w) (sgK P G o s w ρ h K)
def uyes (o : AOp) (s : Nat) (w : Bool) (acc ρ : Env) (h : Heap) (K : Md → Env → Heap → Prop) (_ : Unit) : Prop := stepU P G o (put s (.bool w) (acc ++ ρ)) h K
def uno (o : AOp) (s : Nat) (w : Bool) (acc ρ : Env) (h : Heap) (K : Md → Env → Heap → Prop) (_ : Unit) : Prop := stepU P G o (put s (setg (lk (flush false acc ρ) s) w) (flush false acc ρ)) h K
def stepM (m : Md) (o : AOp) (ρ : Env) (h : Heap) (K : Md → Env → Heap → Prop) : Prop := match m with
  | .u => stepU P G o ρ h K
  | .g s w e acc => match o.g with
    | none => stepU P G o (flush e acc ρ) h K
    | some (s', w') => if s' = s ∧ w' = w then stepG P G s w e acc o ρ h K
      else if acc.any (fun x => x.1 == s') = true then frk e (uyes P G o s w acc ρ h K) (uno P G o s w acc ρ h K)
      else stepU P G o (flush e acc ρ) h K
def fls : Md → Env → Env
  | .u, ρ => ρ
  | .g _ _ e acc, ρ => flush e acc ρ
def rwq (Q : Env → Heap → Prop) : List AOp → Md → Env → Heap → Prop
  | [], m, ρ, h => Q (fls m ρ) h
  | o :: rest, m, ρ, h => stepM P G m o ρ h (rwq Q rest)
end
section sound
variable {P : Program} {G : Glo} {w0 : W0} {h0 : Heap} {N : Nat}
theorem gvv_true (v : AV) : gvv true v = v := rfl
theorem gvv_false (v : AV) : gvv false v = .tup [] := rfl
theorem flush_true (acc ρ : Env) : flush true acc ρ = acc ++ ρ := by simp [flush, gvv_true]
theorem flush_put (e : Bool) (d : Option Nat) (v : AV) (acc ρ : Env) : flush e (put d v acc) ρ = put d (gvv e v) (flush e acc ρ) := by
  cases d <;> simp [flush, put]
theorem gd_gval {s : Nat} {w e : Bool} {ρ : Env} {yes no : Prop} (h : gval (lk ρ s) w = some e) (hk : (e = true → yes) ∧ (e = false → no)) : gd (some (s, w)) ρ yes no := by
  unfold gd
  unfold gval at h
  dsimp only
  split at h <;> simp only [Option.some.injEq, reduceCtorEq] at h <;> subst h
  · rename_i b hb
    rw [hb]
    exact ⟨fun e => hk.1 (by simp [e]), fun e => hk.2 (by simpa using e)⟩
  · rename_i l hl
    rw [hl]
    exact hk.2 rfl
theorem lk_put_self {s : Nat} {v : AV} {ρ : Env} (h : lk ρ s = v) (i : Nat) : lk (put (some s) v ρ) i = lk ρ i := by
  rw [lk_put]
  split
  · rename_i e; cases e; exact h.symm
  · rfl
theorem Sim.cong {ρ ρ1 : Env} {h : Heap} {a : Act} {w : World} (hs : Sim G w0 h0 N ρ h a w) (hl : ∀ i, lk ρ1 i = lk ρ i) : Sim G w0 h0 N ρ1 h a w := hs.less fun i => .inl (hl i)
theorem gval_yes {s : Nat} {w : Bool} {ρ : Env} (h : gval (lk ρ s) w = some true) : lk ρ s = .bool w := by
  unfold gval at h
  split at h
  · rename_i b hb
    simp only [Option.some.injEq] at h
    rw [hb, eq_of_beq h]
  · cases h
  · cases h
theorem gval_no {s : Nat} {w : Bool} {ρ : Env} (h : gval (lk ρ s) w = some false) : lk ρ s = setg (lk ρ s) w := by
  unfold gval at h
  split at h
  · rename_i b hb
    simp only [Option.some.injEq] at h
    rw [hb]
    simp only [setg]
    cases b <;> cases w <;> first | rfl | cases h
  · rename_i l hl; rw [hl]; rfl
  · cases h
def SimM (G : Glo) (w0 : W0) (h0 : Heap) (N : Nat) (m : Md) (ρ : Env) (h : Heap) (a : Act) (w : World) : Prop :=
  Sim G w0 h0 N (fls m ρ) h a w ∧ match m with
    | .u => True
    | .g s t e acc => gval (lk (flush e acc ρ) s) t = some e
variable {ro : Option Nat} {ops : Array Oper} {o : Oper} {ao : AOp} {R : Exit → Act → World → Prop} {next : Act → World → Prop} {J : Md → Env → Heap → Prop}
/-- The outcome of an operation in a region. -/
def Out (ro : Option Nat) (P : Program) (ops : Array Oper) (o : Oper) (a : Act) (w : World) (next : Act → World → Prop) (R : Exit → Act → World → Prop) : Prop :=
  (Region.wanted o (yielded ops a.tmps) = true ∧ o.wpIn (FR ro) 0 P a w next R) ∨ (Region.wanted o (yielded ops a.tmps) = false ∧ next (a.put o.dst undef) w)
theorem opq_stp {d : Option Nat} {k : K} {g : Option (Nat × Bool)} {ρ : Env} {h : Heap} (hq : opq P G ⟨d, g, k⟩ ρ h J) : stp P G k ρ h fun v h' => J .u (put d v ρ) h' := by
  unfold opq at hq
  unfold stp
  cases k with
  | r r =>
    simp only at hq ⊢
    unfold bindO at hq
    split at hq
    · rename_i v hv; rw [hv]; exact hq
    · exact hq.elim
  | e e => exact hq
theorem frk_sound {s : Nat} {t e : Bool} {acc ρ : Env} {h : Heap} {a : Act} {w : World} (ht : trOp P N ops o = some ao.bare) (hg : ao.g = some (s, t)) (hs : Sim G w0 h0 N (flush e acc ρ) h a w) (hv : gval (lk (flush e acc ρ) s) t = some e)
    (hn : ∀ m ρ' h' a' w', J m ρ' h' → SimM G w0 h0 N m ρ' h' a' w' → next a' w')
    (hq : frk e (fyR P G ao s t acc ρ h J) (fno ao s t acc ρ h J)) : Out ro P ops o a w next R := by
  cases e with
  | true =>
    rw [flush_true] at hs hv
    have hl := gval_yes hv
    refine op_sound ht (hs.cong (lk_put_self hl)) (K := J .u) ?_ fun ρ' h' a' w' k s => hn .u ρ' h' a' w' k ⟨s, trivial⟩
    rw [hg]
    refine gd_gval (e := true) (by rw [lk_put_self hl, hl]; simp [gval]) ⟨fun _ => ?_, fun e => by cases e⟩
    exact opq_stp (hq.1 rfl)
  | false =>
    have hl := gval_no hv
    refine op_sound ht (hs.cong (lk_put_self hl)) (K := J .u) ?_ fun ρ' h' a' w' k s => hn .u ρ' h' a' w' k ⟨s, trivial⟩
    rw [hg]
    refine gd_gval (e := false) (by rw [lk_put_self hl]; exact hv) ⟨fun e => (by cases e), fun _ => hq.2 rfl⟩
theorem stepG_sound {s : Nat} {t e : Bool} {acc ρ : Env} {h : Heap} {a : Act} {w : World} (ht : trOp P N ops o = some ao.bare) (hg : ao.g = some (s, t)) (hs : Sim G w0 h0 N (flush e acc ρ) h a w) (hv : gval (lk (flush e acc ρ) s) t = some e)
    (hn : ∀ m ρ' h' a' w', J m ρ' h' → SimM G w0 h0 N m ρ' h' a' w' → next a' w')
    (hq : stepG P G s t e acc ao ρ h J) : Out ro P ops o a w next R := by
  unfold stepG at hq
  split at hq
  · rename_i r hr
    split at hq
    · rename_i hc
      obtain ⟨h1, h2⟩ := hq
      generalize hvv : (evR G r (acc ++ ρ) h).getD .any = v at h2
      have hrest : ∀ ρ' h' a' w', (ρ' = flush e (put ao.d v acc) ρ ∧ h' = h) → Sim G w0 h0 N ρ' h' a' w' → next a' w' := by
        rintro ρ' h' a' w' ⟨rfl, rfl⟩ s'
        refine hn _ ρ h' a' w' h2 ⟨s', ?_⟩
        show gval (lk (flush e (put ao.d v acc) ρ) s) t = some e
        rw [flush_put, lk_put, if_neg hc.2]
        exact hv
      refine op_sound ht hs ?_ hrest
      rw [hg]
      refine gd_gval hv ⟨fun e1 => ?_, fun e1 => ⟨by rw [flush_put, e1]; rfl, rfl⟩⟩
      subst e1
      rw [hr]
      simp only [stp]
      rw [flush_true]
      cases hev : evR G r (acc ++ ρ) h with
      | none => rw [hev] at h1; simp at h1
      | some u =>
        rw [hev] at hvv
        simp only [Option.getD_some] at hvv
        subst hvv
        exact ⟨by rw [flush_put, flush_true]; rfl, trivial⟩
    · exact frk_sound ht hg hs hv hn hq
  · exact frk_sound ht hg hs hv hn hq
theorem stepU_sound {ρ : Env} {h : Heap} {a : Act} {w : World} (ht : trOp P N ops o = some ao.bare) (hs : Sim G w0 h0 N ρ h a w)
    (hn : ∀ m ρ' h' a' w', J m ρ' h' → SimM G w0 h0 N m ρ' h' a' w' → next a' w') (hq : stepU P G ao ρ h J) : Out ro P ops o a w next R := by
  unfold stepU at hq
  split at hq
  · rename_i hg
    refine op_sound ht hs (K := J .u) ?_ fun ρ' h' a' w' k s => hn .u ρ' h' a' w' k ⟨s, trivial⟩
    rw [hg]
    exact opq_stp hq
  · rename_i s t hg
    unfold bindO at hq
    split at hq
    · rename_i e he
      exact stepG_sound (acc := []) ht hg (by simpa [flush] using hs) (by simpa [flush] using he) hn hq
    · exact hq.elim
theorem stepM_sound {m : Md} {ρ : Env} {h : Heap} {a : Act} {w : World} (ht : trOp P N ops o = some ao.bare) (hs : SimM G w0 h0 N m ρ h a w)
    (hn : ∀ m ρ' h' a' w', J m ρ' h' → SimM G w0 h0 N m ρ' h' a' w' → next a' w') (hq : stepM P G m ao ρ h J) : Out ro P ops o a w next R := by
  unfold stepM at hq
  split at hq
  · exact stepU_sound ht hs.1 hn hq
  · rename_i s t e acc
    obtain ⟨hs, hv⟩ := hs
    simp only [fls] at hs
    change gval (lk (flush e acc ρ) s) t = some e at hv
    split at hq
    · exact stepU_sound ht hs hn hq
    · rename_i s' t' hg
      split at hq
      · rename_i hc
        rw [hc.1, hc.2] at hg
        exact stepG_sound ht hg hs hv hn hq
      · split at hq
        · cases e with
          | true =>
            rw [flush_true] at hs hv
            exact stepU_sound ht (hs.cong (lk_put_self (gval_yes hv))) hn (hq.1 rfl)
          | false => exact stepU_sound ht (hs.cong (lk_put_self (gval_no hv))) hn (hq.2 rfl)
        · exact stepU_sound ht hs hn hq
theorem regq_sound {aops : List AOp} (ht : ops.toList.mapM (trOp P N ops) = some (aops.map AOp.bare)) {Q : Env → Heap → Prop}
    (hR : ∀ ρ h a w, Q ρ h → Sim G w0 h0 N ρ h a w → R .normal a w) :
    ∀ (n k : Nat) (m : Md) (ρ : Env) (h : Heap) (a : Act) (w : World), k + n = ops.size → SimM G w0 h0 N m ρ h a w → rwq P G Q (aops.drop k) m ρ h → wpOpsIn (FR ro) 0 P ops R (List.range' k n) a w := by
  obtain ⟨hl, hg⟩ := mapM_get ht
  intro n
  induction n with
  | zero =>
    intro k m ρ h a w hk hs hq
    have : aops.drop k = [] := List.drop_eq_nil_of_le (by rw [List.length_map] at hl; rw [← hl]; simp; omega)
    rw [this] at hq
    exact hR _ h a w hq hs.1
  | succ n ih =>
    intro k m ρ h a w hk hs hq
    have hlt : k < ops.size := by omega
    obtain ⟨bo, hbo, hto⟩ := hg k ops[k] (by simp [hlt])
    rw [List.getElem?_map] at hbo
    obtain ⟨ao, hao, rfl⟩ := Option.map_eq_some_iff.1 hbo
    have hd : aops.drop k = ao :: aops.drop (k + 1) := by
      have hlt' := (List.getElem?_eq_some_iff.1 hao).1
      rw [List.drop_eq_getElem_cons hlt', (List.getElem?_eq_some_iff.1 hao).2]
    rw [hd] at hq
    simp only [rwq] at hq
    rw [List.range'_succ]
    simp only [wpOpsIn, Array.getElem?_eq_getElem hlt]
    rcases stepM_sound (next := wpOpsIn (FR ro) 0 P ops R (List.range' (k + 1) n)) (R := R) hto hs (fun m' ρ' h' a' w' q s => ih (k + 1) m' ρ' h' a' w' (by omega) s q) hq with ⟨hw, hy⟩ | ⟨hw, hno⟩
    · rw [if_pos hw]; exact hy
    · rw [if_neg (by rw [hw]; simp)]; exact ⟨fun _ _ => trivial, hno⟩
theorem Wp.regq {ρ : Env} {h : Heap} {Q : Exit → Env → Heap → Prop} {l : List AOp} (hq : rwq P G (Q .normal) l .u ρ h) : Wp P G N (.reg l) ρ h Q := by
  intro ro c hc w0 h0 a w hs
  obtain ⟨id, ops, rfl, h1⟩ := inv_any hc
  refine wpIn_region ?_
  rw [List.range_eq_range']
  exact regq_sound h1 (R := fun e a' w' => ∃ ρ' h', Q e ρ' h' ∧ Sim G w0 h0 N ρ' h' a' w') (Q := Q .normal) (fun ρ' h' a' w' q s => ⟨ρ', h', q, s⟩) ops.size 0 .u ρ h a w (by omega) ⟨hs, trivial⟩ hq
end sound
/-- Are the orders that are laid beside the code's open regions right? -/
def drOk : ACode → Bool
  | .seq _ a b | .cond _ a b => drOk a && drOk b
  | .block _ a | .loop a => drOk a
  | .dreg ops es od => dok ops es od
  | .dregt ops es t => dokT ops es t
  | .fz _ a | .wk _ a | .scp a => drOk a
  | _ => true
section
variable (P : Program) (G : Glo) (N : Nat)
def cndQ (v : AV) (yes no : Unit → Prop) : Prop := match v with
  | .bool b => (b = true → yes ()) ∧ (b = false → no ())
  | _ => False
/-- A loop. -/
def lpc (a : ACode) (Q : Exit → Env → Heap → Prop) (ρ : Env) (h : Heap) : Prop := P.follows .mixedOrders = true → drOk a = true → Wp P G N (.loop a) ρ h Q
def wpcU (f : Env → Heap → Prop) (ρ : Env) (h : Heap) (_ : Unit) : Prop := f ρ h
/-- A variable that will not be written any more: its cells are data from here on. -/
def fzK (s b : Nat) (f : Env → Heap → Prop) (ρ : Env) (h : Heap) (x : Blk) : Prop := f (put (some s) (.cp x.cells 0) ρ) (era h b)
def fzQ (s : Nat) (f : Env → Heap → Prop) (ρ : Env) (h : Heap) (v : AV) : Prop := match v with
  | .ptr b 0 => bindO (h b) (fzK s b f ρ h)
  | _ => False
/-- What is known of a slot may be told weaker here. -/
def wkK (s : Nat) (f : Env → Heap → Prop) (ρ : Env) (v : AV) (h : Heap) : Prop := f (put (some s) v ρ) h
def wkQ (K : AV → Heap → Prop) (v : AV) (h : Heap) : Prop := ∃ v' h', Le v h v' h' ∧ K v' h'
def wpc : ACode → (Exit → Env → Heap → Prop) → Env → Heap → Prop
  | .skip, Q => Q .normal
  | .ret, Q => Q .ret
  | .exit id, Q => Q (.exit id)
  | .seq ks a b, Q => wpc a (thn ks (wpc b Q) Q)
  | .cond c a b, Q => fun ρ h => cndQ (xv G ρ c) (wpcU (wpc a Q) ρ h) (wpcU (wpc b Q) ρ h)
  | .block id a, Q => wpc a (blk id Q)
  | .loop a, Q => lpc P G N a Q
  | .reg ops, Q => rwq P G (Q .normal) ops .u
  | .dreg ops _ od, Q => fun ρ h => dwp P G ops od ρ h (Q .normal)
  | .dregt ops _ t, Q => fun ρ h => dwpT P G ops (Q .normal) t ρ h
  | .fz s a, Q => fun ρ h => fzQ s (wpc a Q) ρ h (lk ρ s)
  | .wk s a, Q => fun ρ h => wkQ (wkK s (wpc a Q) ρ) (lk ρ s) h
  | .scp a, Q => wpc a (scQ Q)
  | .lab, Q => Q .normal
end
section
variable {P : Program} {G : Glo} {N : Nat}
theorem Sim.fz {w0 : W0} {h0 h : Heap} {ρ : Env} {s b : Nat} {x : Blk} {a : Act} {w : World} (hs : Sim G w0 h0 N ρ h a w) (hp : lk ρ s = .ptr b 0) (hb : h b = some x) :
    Sim G w0 h0 N (put (some s) (.cp x.cells 0) ρ) (era h b) a w := by
  have hu : upd (era h b) b x = h := by
    funext c
    simp only [upd, era]
    split
    · rename_i e; rw [e, hb]
    · rfl
  have hsub : ∀ c y, era h b c = some y → h c = some y := by
    intro c y e
    simp only [era] at e
    split at e
    · cases e
    · exact e
  have hs' := hs.forget hsub
  refine ⟨hs'.nd, hs'.sz, fun i => ?_, hs'.heap, hs'.glo, hs'.fr⟩
  have h1 := hs'.env i
  have h2 := hs.env i
  rw [lk_put]
  split
  · rename_i e
    cases e
    rw [hp] at h2
    have hkc := rep_ptrC h2
    rw [rep_ptr h2]
    obtain ⟨_, _, l3, l4⟩ := hrep_new (h := era h b) (b := b) (x := x) (by simp [era]) (by rw [hu]; exact hs.heap)
    have l4 := l4 hkc
    exact .cp x.cells 0 b 0 (fun i => (w.cell? ⟨b, i, none⟩).getD undef) l3 (fun hd => hd (by simp [era])) (fun i v hv => by
      obtain ⟨cv, e1, e2, _⟩ := l4 i v hv
      rw [Nat.zero_add, e1]; exact ⟨rfl, e2⟩) (fun i v hv => by
      obtain ⟨cv, e1, _, e3⟩ := l4 i v hv
      rw [e1]; exact e3)
  · exact h1
theorem Sim.wk {w0 : W0} {h0 h h' : Heap} {ρ : Env} {s : Nat} {v : AV} {a : Act} {w : World} (hs : Sim G w0 h0 N ρ h a w) (hl : Le (lk ρ s) h v h') : Sim G w0 h0 N (put (some s) v ρ) h' a w := by
  obtain ⟨x, y, z⟩ := hl w _ hs.heap (hs.env s)
  have hk : Keeps w h.dom w h'.dom := ⟨Nat.le_refl _, fun b _ hn => ⟨fun hd => hd (z b (Classical.not_not.1 hn)), rfl⟩, fun _ h => h⟩
  refine ⟨hs.nd, hs.sz, fun i => ?_, x, hs.glo.keep hk, hs.fr.less z⟩
  rw [lk_put]
  split
  · rename_i e; cases e; exact y
  · exact (hs.env i).keep hk
theorem wkQ.own {sz n : Nat} {g h : Heap} {v : AV} {cells : List AV} {K : AV → Heap → Prop} (ho : Own sz g v cells n h) (hq : K (.ro cells n) g) : wkQ K v h := ⟨_, _, ho.freeze, hq⟩
theorem wkQ.same {h : Heap} {v : AV} {K : AV → Heap → Prop} (hq : K v h) : wkQ K v h := ⟨_, _, Le.refl v h, hq⟩
theorem Wp.of_wpc (hm : P.follows .mixedOrders = true) : ∀ (ac : ACode), drOk ac = true → ∀ (Q : Exit → Env → Heap → Prop) (ρ : Env) (h : Heap), wpc P G N ac Q ρ h → Wp P G N ac ρ h Q := by
  intro ac
  induction ac with
  | skip => intro _ Q ρ h hq; exact .skip hq
  | ret => intro _ Q ρ h hq; exact .ret hq
  | exit id => intro _ Q ρ h hq; exact .exit hq
  | seq ks a b iha ihb =>
    intro hd Q ρ h hq
    simp only [drOk, Bool.and_eq_true] at hd
    refine .seq ((iha hd.1 _ ρ h hq).mono ?_)
    intro e ρ' h' he
    cases e <;> simp only [thn] at he ⊢
    · exact ihb hd.2 Q _ _ he
    all_goals exact he
  | cond c a b iha ihb =>
    intro hd Q ρ h hq
    simp only [drOk, Bool.and_eq_true] at hd
    simp only [wpc] at hq
    unfold cndQ at hq
    split at hq
    · rename_i t hx
      exact .cond hx (fun e => iha hd.1 Q ρ h (hq.1 e)) (fun e => ihb hd.2 Q ρ h (hq.2 e))
    · exact hq.elim
  | block id a ih => intro hd Q ρ h hq; exact .block (ih hd _ ρ h hq)
  | loop a ih => intro hd Q ρ h hq; exact hq hm hd
  | scp a ih => intro hd Q ρ h hq; exact .scp (ih hd _ ρ h hq)
  | lab => intro _ Q ρ h hq; exact .lab hq
  | reg ops => intro _ Q ρ h hq; exact .regq hq
  | dreg ops es od => intro hd Q ρ h hq; exact .dreg hm hd hq
  | dregt ops es t => intro hd Q ρ h hq; exact .dregt hm hd hq
  | wk s a ih =>
    intro hd Q ρ h hq
    obtain ⟨v', h', hl, hq⟩ := hq
    have := ih hd Q _ _ hq
    intro ro c hc w0 h0 a w hs
    exact this ro c hc w0 h0 a w (hs.wk hl)
  | fz s a ih =>
    intro hd Q ρ h hq
    simp only [wpc] at hq
    unfold fzQ at hq
    split at hq
    · rename_i b hv
      unfold bindO at hq
      split at hq
      · rename_i x hb
        have := ih hd Q _ _ hq
        intro ro c hc w0 h0 a w hs
        exact this ro c hc w0 h0 a w (hs.fz hv hb)
      · exact hq.elim
    · exact hq.elim
/-- Behind a round: it ends, or goes on from what is known of what is left. -/
def lpN (ks : List Nat) (R : Nat → Env → Heap → Prop) (n : Nat) (ρ : Env) (h : Heap) : Prop := ∃ n' h1, n' < n ∧ Sub h1 h ∧ R n' (keep ks ρ) h1
def lpQ (ks : List Nat) (R : Nat → Env → Heap → Prop) (n : Nat) (Q : Exit → Env → Heap → Prop) : Exit → Env → Heap → Prop
  | .normal => lpN ks R n
  | .exit id => Q (.exit id)
  | .goto l => Q (.goto l)
  | .ret => Q .ret
  | .panic c => Q (.panic c)
  | .outgrown => Q .outgrown
/-- A loop, by what is known ahead of each round (R) and how much is left. -/
theorem lpc.rel {a : ACode} {Q : Exit → Env → Heap → Prop} {ρ : Env} {h : Heap} (ks : List Nat) (R : Nat → Env → Heap → Prop) (h0 : ∃ n, R n (keep ks ρ) h)
    (step : ∀ n ρ h, R n ρ h → wpc P G N a (lpQ ks R n Q) ρ h) : lpc P G N a Q ρ h := by
  intro hm hd
  obtain ⟨n, hR⟩ := h0
  have key : ∀ n m, m < n → ∀ ρ h, R m ρ h → Lp P G N a Q n ρ h := by
    intro n
    induction n with
    | zero => intro m hm; omega
    | succ n ih =>
      intro m hmn ρ h hR
      refine Lp.succ ks ((Wp.of_wpc hm a hd _ ρ h (step m ρ h hR)).mono ?_)
      intro e ρ' h' he
      cases e <;> simp only [lpQ, thn] at he ⊢
      · obtain ⟨n', h1, hn', hsub, hR'⟩ := he
        exact Lp.weak (ih n' (by omega) _ _ hR') fun w0 h0 a w hs => hs.forget hsub
      all_goals exact he
  refine Wp.weak (Wp.loop _ (key (n + 1) n (by omega) _ h hR)) fun w0 h0 a w hs => hs.less (lk_keep ks ρ)
/-- A function's code, as it was taken. -/
structure Okf (P : Program) (f : FuncId) (fn : Func) (ac : ACode) (rs : List RV) : Prop where
  hf : P.funcs[f]? = some fn
  ht : trF P fn = some (ac.bare, rs)
  hm : P.follows .mixedOrders = true
  hd : drOk ac = true
theorem Spec.walk {f : FuncId} {fn : Func} {ac : ACode} {rs : List RV} {args : List AV} {h : Heap} {Q : AV → Heap → Prop} (ho : Okf P f fn ac rs)
    (hn : Nat.ble args.length fn.ntmps = true) (hw : wpc P G fn.ntmps ac (retQ rs Q) (argEnv args) h) : Spec P G f args h Q :=
  Spec.of_tr ho.hf ho.ht (Nat.le_of_ble_eq_true hn) (Wp.of_wpc ho.hm ac ho.hd _ _ _ hw)
theorem SpecD.walk {f : FuncId} {fn : Func} {ac : ACode} {rs : List RV} {args : List AV} {h : Heap} {Q : AV → Heap → Prop} (ho : Okf P f fn ac rs)
    (hn : Nat.ble args.length fn.ntmps = true) (hw : wpc P G fn.ntmps ac (retQ rs Q) (argEnv args) h) : SpecD P G f args h Q :=
  SpecD.of_tr ho.hf ho.ht (Nat.le_of_ble_eq_true hn) (Wp.of_wpc ho.hm ac ho.hd _ _ _ hw)
/-- A function that defers one call, as it was taken. -/
structure Okd (P : Program) (f : FuncId) (fn : Func) (x : ACode) (D : Nat × Nat × List Operand) (y : ACode) (rs : List RV) : Prop where
  hf : P.funcs[f]? = some fn
  ht : trD P fn = some (x.bare, D, y.bare, rs)
  hm : P.follows .mixedOrders = true
  hx : drOk x = true
  hy : drOk y = true
def midC (P : Program) (G : Glo) (N d g : Nat) (caps : List Operand) (y : ACode) (rs : List RV) (Q : AV → Heap → Prop) : Exit → Env → Heap → Prop
  | .normal, ρ, h => wpc P G N y (defQ P G g (caps.map (xv G ρ)) rs Q) (put (some d) (.fn g [] (caps.map (xv G ρ))) ρ) h
  | _, _, _ => False
theorem Spec.walkD {f : FuncId} {fn : Func} {x y : ACode} {d g : Nat} {caps : List Operand} {rs : List RV} {args : List AV} {h : Heap} {Q : AV → Heap → Prop} (ho : Okd P f fn x (d, g, caps) y rs)
    (hn : Nat.ble args.length fn.ntmps = true) (hw : wpc P G fn.ntmps x (midC P G fn.ntmps d g caps y rs Q) (argEnv args) h) : Spec P G f args h Q := by
  refine Spec.of_defer ho.hf ho.ht (Nat.le_of_ble_eq_true hn) ((Wp.of_wpc ho.hm x ho.hx _ _ _ hw).mono ?_)
  intro e ρ' h' hq
  cases e <;> simp only [midC, midQ] at hq ⊢
  exact Wp.of_wpc ho.hm y ho.hy _ _ _ hq
end
/-- A call that answers v and leaves all as it was. -/
def Is (v : AV) (h : Heap) (r : AV) (h' : Heap) : Prop := r = v ∧ h = h'
theorem Spec.to {P : Program} {G : Glo} {f : FuncId} {args : List AV} {h h1 : Heap} {v : AV} {Q : AV → Heap → Prop} (hs : Spec P G f args h (Is v h1)) (hq : Q v h1) : Spec P G f args h Q :=
  hs.mono fun _ _ ⟨e1, e2⟩ => by subst e1; subst e2; exact hq
def IsS (v : AV) (h : Heap) (r : AV) (h' : Heap) : Prop := r = v ∧ Sub h h'
theorem Spec.is {P : Program} {G : Glo} {f : FuncId} {fn : Func} {ac : ACode} {rs : List RV} {args : List AV} {h h1 : Heap} {v : AV} (ho : Okf P f fn ac rs)
    (hn : Nat.ble args.length fn.ntmps = true) (hw : wpc P G fn.ntmps ac (retQ rs (IsS v h1)) (argEnv args) h) : Spec P G f args h (Is v h1) :=
  Spec.drop ((Spec.walk ho hn hw).mono fun _ _ ⟨e1, e2⟩ => ⟨h1, e2, e1, rfl⟩)
theorem upd_at {h : Heap} {b c : Nat} {x : Blk} : upd h b x c = if c = b then some x else h c := rfl
theorem era_none {h : Heap} {b : Nat} (hb : h b = none) : era h b = h := by
  funext c; simp only [era]; split
  · rename_i e; rw [e, hb]
  · rfl
section eqs
@[push_cast] theorem IsS_app {v r : AV} {h h' : Heap} : IsS v h r h' = (r = v ∧ Sub h h') := by rw [IsS]
@[push_cast] theorem Sub_refl {h : Heap} : Sub h h = True := by simp [Sub.refl]
@[push_cast] theorem Is_app {v r : AV} {h h' : Heap} : Is v h r h' = (r = v ∧ h = h') := by rw [Is]
@[push_cast] theorem midC_n {P : Program} {G : Glo} {N d g : Nat} {caps : List Operand} {y : ACode} {rs : List RV} {Q : AV → Heap → Prop} {ρ : Env} {h : Heap} : midC P G N d g caps y rs Q .normal ρ h = wpc P G N y (defQ P G g (caps.map (xv G ρ)) rs Q) (put (some d) (.fn g [] (caps.map (xv G ρ))) ρ) h := by rw [midC]
@[push_cast] theorem defQ_n {P : Program} {G : Glo} {g : Nat} {vs : List AV} {rs : List RV} {Q : AV → Heap → Prop} {ρ : Env} {h : Heap} : defQ P G g vs rs Q .normal ρ h = SpecD P G g vs h fun _ => retQ rs Q .ret ρ := by rw [defQ]; rfl
@[push_cast] theorem defQ_r {P : Program} {G : Glo} {g : Nat} {vs : List AV} {rs : List RV} {Q : AV → Heap → Prop} {ρ : Env} {h : Heap} : defQ P G g vs rs Q .ret ρ h = SpecD P G g vs h fun _ => retQ rs Q .ret ρ := by rw [defQ]; rfl
variable {P : Program} {G : Glo} {N : Nat} {Q : Exit → Env → Heap → Prop} {K : Md → Env → Heap → Prop} {q : Env → Heap → Prop} {ρ acc : Env} {h : Heap} {d : Option Nat} {r : RK} {ek : EK} {k : Ab.K} {s s' : Nat} {w w' e b t : Bool} {rest : List AOp} {o : AOp} {v v' x : AV}
@[push_cast] theorem wpc_skip : wpc P G N .skip Q ρ h = Q .normal ρ h := by rw [wpc]
@[push_cast] theorem wpc_ret : wpc P G N .ret Q ρ h = Q .ret ρ h := by rw [wpc]
@[push_cast] theorem wpc_exit {id : Nat} : wpc P G N (.exit id) Q ρ h = Q (.exit id) ρ h := by rw [wpc]
@[push_cast] theorem wpc_seq {ks a c} : wpc P G N (.seq ks a c) Q ρ h = wpc P G N a (thn ks (wpc P G N c Q) Q) ρ h := by rw [wpc]
@[push_cast] theorem wpc_cond {a c o} : wpc P G N (.cond o a c) Q ρ h = cndQ (xv G ρ o) (wpcU (wpc P G N a Q) ρ h) (wpcU (wpc P G N c Q) ρ h) := by rw [wpc]
@[push_cast] theorem wpc_block {id a} : wpc P G N (.block id a) Q ρ h = wpc P G N a (blk id Q) ρ h := by rw [wpc]
@[push_cast] theorem wpc_scp {a} : wpc P G N (.scp a) Q ρ h = wpc P G N a (scQ Q) ρ h := by rw [wpc]
@[push_cast] theorem wpc_lab : wpc P G N .lab Q ρ h = Q .normal ρ h := by rw [wpc]
@[push_cast] theorem scQ_n : scQ Q .normal ρ h = Q .normal ρ h := by rw [scQ]; intro l e; cases e
@[push_cast] theorem scQ_r : scQ Q .ret ρ h = Q .ret ρ h := by rw [scQ]; intro l e; cases e
@[push_cast] theorem scQ_e {id : Nat} : scQ Q (.exit id) ρ h = Q (.exit id) ρ h := by rw [scQ]; intro l e; cases e
@[push_cast] theorem wpc_loop {a} : wpc P G N (.loop a) Q ρ h = lpc P G N a Q ρ h := by rw [wpc]
@[push_cast] theorem wpc_reg {ops} : wpc P G N (.reg ops) Q ρ h = rwq P G (Q .normal) ops .u ρ h := by rw [wpc]
@[push_cast] theorem wpc_dreg {ops es od} : wpc P G N (.dreg ops es od) Q ρ h = dwp P G ops od ρ h (Q .normal) := by rw [wpc]
@[push_cast] theorem wpc_dregt {ops es t} : wpc P G N (.dregt ops es t) Q ρ h = dwpT P G ops (Q .normal) t ρ h := by rw [wpc]
@[push_cast] theorem wpc_fz {a} : wpc P G N (.fz s a) Q ρ h = fzQ s (wpc P G N a Q) ρ h (lk ρ s) := by rw [wpc]
@[push_cast] theorem wpc_wk {a} : wpc P G N (.wk s a) Q ρ h = wkQ (wkK s (wpc P G N a Q) ρ) (lk ρ s) h := by rw [wpc]
@[push_cast] theorem wkK_app : wkK s q ρ v h = q (put (some s) v ρ) h := by rw [wkK]
@[push_cast] theorem fzQ_ptr {c : Nat} : fzQ s q ρ h (.ptr c 0) = bindO (h c) (fzK s c q ρ h) := by rw [fzQ]
@[push_cast] theorem fzK_app {c : Nat} {y} : fzK s c q ρ h y = q (put (some s) (.cp y.cells 0) ρ) (era h c) := by rw [fzK]
@[push_cast] theorem era_upd {c : Nat} {y} : era (upd h c y) c = era h c := by funext d; simp only [era, upd]; split <;> rfl
@[push_cast] theorem wpcU_app {u : Unit} : wpcU q ρ h u = q ρ h := by rw [wpcU]
@[push_cast] theorem cndQ_true {yes no : Unit → Prop} : cndQ (.bool true) yes no = yes () := by simp [cndQ]
@[push_cast] theorem cndQ_false {yes no : Unit → Prop} : cndQ (.bool false) yes no = no () := by simp [cndQ]
@[push_cast 900] theorem cndQ_b {yes no : Unit → Prop} : cndQ (.bool b) yes no = ((b = true → yes ()) ∧ (b = false → no ())) := by rw [cndQ]
@[push_cast] theorem rwq_nil_u : rwq P G q [] .u ρ h = q ρ h := by rw [rwq, fls]
@[push_cast] theorem rwq_nil_g : rwq P G q [] (.g s w e acc) ρ h = q (flush e acc ρ) h := by rw [rwq, fls]
@[push_cast] theorem rwq_cons {m} : rwq P G q (o :: rest) m ρ h = stepM P G m o ρ h (rwq P G q rest) := by rw [rwq]
@[push_cast] theorem stepM_u : stepM P G .u o ρ h K = stepU P G o ρ h K := by rw [stepM]
@[push_cast] theorem stepM_gn : stepM P G (.g s w e acc) ⟨d, none, k⟩ ρ h K = stepU P G ⟨d, none, k⟩ (flush e acc ρ) h K := by rw [stepM]
@[push_cast] theorem stepM_gg : stepM P G (.g s w e acc) ⟨d, some (s', w'), k⟩ ρ h K = if s' = s ∧ w' = w then stepG P G s w e acc ⟨d, some (s', w'), k⟩ ρ h K
      else if acc.any (fun x => x.1 == s') = true then frk e (uyes P G ⟨d, some (s', w'), k⟩ s w acc ρ h K) (uno P G ⟨d, some (s', w'), k⟩ s w acc ρ h K)
      else stepU P G ⟨d, some (s', w'), k⟩ (flush e acc ρ) h K := by rw [stepM]
@[push_cast] theorem stepU_n : stepU P G ⟨d, none, k⟩ ρ h K = opq P G ⟨d, none, k⟩ ρ h K := by rw [stepU]
@[push_cast] theorem stepU_g : stepU P G ⟨d, some (s, w), k⟩ ρ h K = bindO (gval (lk ρ s) w) (sgK P G ⟨d, some (s, w), k⟩ s w ρ h K) := by rw [stepU]
@[push_cast] theorem sgK_app : sgK P G o s w ρ h K e = stepG P G s w e [] o ρ h K := by rw [sgK]
@[push_cast] theorem opq_r {g} : opq P G ⟨d, g, .r r⟩ ρ h K = bindO (evR G r ρ h) (rdK K d ρ h) := by rw [opq]
@[push_cast] theorem opq_e {g} : opq P G ⟨d, g, .e ek⟩ ρ h K = stE P G ek ρ h (reK K d ρ) := by rw [opq]
@[push_cast] theorem rdK_app : rdK K d ρ h v = K .u (put d v ρ) h := by rw [rdK]
@[push_cast] theorem reK_app : reK K d ρ v h = K .u (put d v ρ) h := by rw [reK]
@[push_cast] theorem rgK_app : rgK K d s w e acc ρ h v = K (.g s w e (put d v acc)) ρ h := by rw [rgK]
@[push_cast] theorem stepG_r {g} : stepG P G s w e acc ⟨d, g, .r r⟩ ρ h K = if tot r = true ∧ d ≠ some s then bindG e (evR G r (acc ++ ρ) h) (rgK K d s w e acc ρ h) else frk e (fyR P G ⟨d, g, .r r⟩ s w acc ρ h K) (fno ⟨d, g, .r r⟩ s w acc ρ h K) := by rw [stepG]
@[push_cast] theorem stepG_e {g} : stepG P G s w e acc ⟨d, g, .e ek⟩ ρ h K = frk e (fyR P G ⟨d, g, .e ek⟩ s w acc ρ h K) (fno ⟨d, g, .e ek⟩ s w acc ρ h K) := by rw [stepG]
@[push_cast] theorem fyR_app {g} {u : Unit} : fyR P G ⟨d, g, k⟩ s w acc ρ h K u = opq P G ⟨d, none, k⟩ (put (some s) (.bool w) (acc ++ ρ)) h K := by rw [fyR]
@[push_cast] theorem fno_app {g} {u : Unit} : fno ⟨d, g, k⟩ s w acc ρ h K u = K .u (put d (.tup []) (put (some s) (setg (lk (flush false acc ρ) s) w) (flush false acc ρ))) h := by rw [fno]
@[push_cast] theorem uyes_app {u : Unit} : uyes P G o s w acc ρ h K u = stepU P G o (put (some s) (.bool w) (acc ++ ρ)) h K := by rw [uyes]
@[push_cast] theorem uno_app {u : Unit} : uno P G o s w acc ρ h K u = stepU P G o (put (some s) (setg (lk (flush false acc ρ) s) w) (flush false acc ρ)) h K := by rw [uno]
@[push_cast] theorem frk_true {yes no : Unit → Prop} : frk true yes no = yes () := by simp [frk]
@[push_cast] theorem frk_false {yes no : Unit → Prop} : frk false yes no = no () := by simp [frk]
@[push_cast 900] theorem frk_b {yes no : Unit → Prop} : frk e yes no = ((e = true → yes ()) ∧ (e = false → no ())) := by rw [frk]
@[push_cast] theorem bindG_some {K : AV → Prop} : bindG e (some v) K = K v := by simp [bindG]
@[push_cast] theorem bindG_false {K : AV → Prop} {o : Option AV} : bindG false o K = K (o.getD .any) := by simp [bindG]
@[push_cast] theorem bindO_ite {α : Type} {c : Prop} [Decidable c] {v : α} {K : α → Prop} : bindO (if c then some v else none) K = (c ∧ K v) := by split <;> simp [bindO, *]
@[push_cast] theorem bindO_ite' {α : Type} {c : Prop} [Decidable c] {v : α} {K : α → Prop} : bindO (if c then none else some v) K = (¬c ∧ K v) := by split <;> simp [bindO, *]
@[push_cast] theorem gval_b : gval (.bool b) w = some (b == w) := rfl
@[push_cast] theorem gval_tup {l} : gval (.tup l) w = some false := rfl
@[push_cast] theorem gval_gvv : gval (gvv t (.bool b)) w = some (t && (b == w)) := by cases t <;> rfl
@[push_cast] theorem setg_b : setg (.bool b) w = .bool (!w) := rfl
@[push_cast] theorem setg_tup {l} : setg (.tup l) w = .tup l := rfl
@[push_cast] theorem setg_gvv : setg (gvv t (.bool b)) w = gvv t (.bool (!w)) := by cases t <;> rfl
@[push_cast] theorem gvv_t : gvv true v = v := rfl
@[push_cast] theorem gvv_f : gvv false v = .tup [] := rfl
@[push_cast] theorem pk_t : (bif t then gvv t v else x) = bif t then v else x := by cases t <;> rfl
@[push_cast] theorem pk_f : (bif t then x else gvv (!t) v) = bif t then x else v := by cases t <;> rfl
@[push_cast] theorem pk_b {a c : Bool} : (bif t then AV.bool a else AV.bool c) = .bool (bif t then a else c) := by cases t <;> rfl
@[push_cast] theorem pk_or {a : Bool} : (bif t then true else a) = (t || a) := by cases t <;> rfl
@[push_cast] theorem pk_and {a : Bool} : (bif t then a else false) = (t && a) := by cases t <;> rfl
end eqs
attribute [push_cast] and_false false_and Option.some.injEq flush lpQ tot beq_true beq_false Bool.true_beq Bool.false_beq Bool.not_true Bool.not_false Bool.true_and Bool.and_true Bool.false_and Bool.and_false Bool.or_true Bool.true_or Bool.or_false Bool.false_or List.any_cons List.any_nil
end Go.Ab
