/- Joined. -/
import Derived.Test.YtfgooaploagiaaaGreatPG4
set_option linter.unusedSimpArgs false
set_option linter.unusedVariables false
set_option maxRecDepth 10000
section
namespace Go.Ab
open Go.Proofs
variable {G : Glo} {h : Heap}
def fcells (b : IBk) (regs : List (BitVec 32)) (p : Nat) (vv : AV) : List AV := bkP b :: (wds regs ++ [.ptr p 0, vv])
section
variable {b : IBk} {regs : List (BitVec 32)} {p : Nat} {vv : AV}
end
def VAt (H h0 : Heap) (l : Pl) (pf : Nat) (vv : AV) (vals : List (BitVec 32)) : Prop :=
 (vv = .nils ∧ vals = []) ∨ ∃ c pre cap sp, vv = .sl c (List.length pre) vals.length cap ∧ H c = some ⟨pre ++ wds vals, sp⟩ ∧ cap ≤ vals.length + sp ∧ c ≠ pf ∧ ¬ l.has c ∧ h0 c = none
structure FAt (H h0 : Heap) (l : Pl) (M : IRam) (pf : Nat) (b : IBk) (regs : List (BitVec 32)) (vv : AV) (vals : List (BitVec 32)) : Prop where
 ram : RamAt H l M
 np : ¬ l.has pf
 nf : h0 pf = none
 fr : H pf = some ⟨fcells b regs l.p vv, 0⟩
 vs : VAt H h0 l pf vv vals
 old : ∀ c, h0 c ≠ none → ¬ l.has c → H c = h0 c
 len : regs.length = 32
section
variable {H h0 : Heap} {l : Pl} {M : IRam} {pf : Nat} {b : IBk} {regs vals : List (BitVec 32)} {vv : AV}
theorem FAt.at (hf : FAt H h0 l M pf b regs vv vals) {i : Nat} (hi : i < vals.length) : ∃ c pre cap sp, vv = .sl c (List.length pre) vals.length cap ∧ H c = some ⟨pre ++ wds vals, sp⟩ ∧ c ≠ pf ∧ ¬ l.has c := by
 rcases hf.vs with ⟨_, rfl⟩ | ⟨c, pre, cap, sp, h1, h2, _, h3, h4, _⟩
 ·simp at hi
 ·exact ⟨c, pre, cap, sp, h1, h2, h3, h4⟩
def lv (vals : List (BitVec 32)) (n : Int) : BitVec 32 := vals.getD n.toNat 0#32
def extI (n : Int) (w : BitVec 32) : BitVec 32 := if n = 11 then BitVec.ofNat 32 (extN w.toNat 8) else if n = 12 then BitVec.ofNat 32 (extN w.toNat 16) else w
def loadE (o : IOp) (vals : List (BitVec 32)) (M : IRam) : Int := askedN M.b.length (lv vals o.a) (loadsN o.imm.toNat)
def storeE (o : IOp) (vals : List (BitVec 32)) (M : IRam) : Int := askedN M.b.length (lv vals o.a) (storesN o.imm.toNat)
def storeR (o : IOp) (vals : List (BitVec 32)) (M : IRam) : IRam × Bool := M.store (lv vals o.a) (storesN o.imm.toNat).toNat (lv vals o.b)
def storeX (o : IOp) (vals : List (BitVec 32)) (M : IRam) : Int × IRam := if storeE o vals M = 0 then (if (storeR o vals M).2 then o.y else -1, (storeR o vals M).1) else (o.x, M)
def takenN (n : Int) (a b : BitVec 32) : Bool := if n = 5 then decide (a = b) else if n = 6 then decide (a ≠ b) else if n = 7 then decide (a.toInt < b.toInt) else if n = 8 then decide (b.toInt ≤ a.toInt) else if n = 9 then decide (a.toNat < b.toNat) else decide (b.toNat ≤ a.toNat)
theorem Taken_spec (n : Int) (a b : BitVec 32) (hn : 5 ≤ n ∧ n ≤ 10) : Spec Tryz.prog G 154 [.int .i64 n, .int .u32 a.toNat, .int .u32 b.toNat] h (Is (.tup [.bool (takenN n a b), .int .i64 0]) h) := by
 have hc : n = 5 ∨ n = 6 ∨ n = 7 ∨ n = 8 ∨ n = 9 ∨ n = 10 := by omega
 rcases hc with rfl | rfl | rfl | rfl | rfl | rfl
 all_goals
  refine Spec.is C154ok rfl ?_
  simp only [push_cast, simprocAttr]
  simp [takenN]
  try (rw [Bool.eq_iff_iff]; simp)
theorem rTaken_spec (n : Int) (a b : BitVec 32) (hn : 5 ≤ n ∧ n ≤ 10) : Spec Tryz.prog G 55 [.int .i64 n, .int .u32 a.toNat, .int .u32 b.toNat] h (Is (.bool (takenN n a b)) h) := by
 have hc : n = 5 ∨ n = 6 ∨ n = 7 ∨ n = 8 ∨ n = 9 ∨ n = 10 := by omega
 rcases hc with rfl | rfl | rfl | rfl | rfl | rfl
 all_goals
  refine Spec.is C55ok rfl ?_
  simp only [push_cast, simprocAttr]
  refine (Signed_spec a).to ?_
  simp only [push_cast, simprocAttr]
  refine (Signed_spec b).to ?_
  simp only [push_cast, simprocAttr]
  simp [takenN]
  try (rw [Bool.eq_iff_iff]; simp [BitVec.toInt_inj])
def stepN (regs : List (BitVec 32)) (o : IOp) (vals : List (BitVec 32)) (M : IRam) : BitVec 32 × Int × IRam :=
 if o.code = 1 then (regs.getD o.imm.toNat 0#32, -1, M)
 else if o.code = 4 then (if loadE o vals M = 0 then (extI o.imm.toNat (M.load (lv vals o.a) (loadsN o.imm.toNat).toNat), -1, M) else (0, o.x, M))
 else if o.code = 5 then (0, storeX o vals M)
 else if o.code = 6 then (0, if takenN o.imm.toNat (lv vals o.a) (lv vals o.b) then -1 else o.x, M)
 else if o.code = 3 then (reckN o.imm.toNat (lv vals o.a) (lv vals o.b), -1, M)
 else (o.imm, -1, M)
theorem FAt.push (hf : FAt H h0 l M pf b regs vv vals) (w : BitVec 32) (hn : vals.length ≤ 1000) {Q : AV → Heap → Prop} (hq : ∀ v' H', cellsOf v' = some [v'] → H' pf = some ⟨fcells b regs l.p vv, 0⟩ → FAt (Ab.upd H' pf ⟨fcells b regs l.p v', 0⟩) h0 l M pf b regs v' (vals ++ [w]) → Q v' H') :
  appQ 1 4 1 [.int .u32 (w.toNat : Int)] vv H Q := by
 have hlen := hf.len
 have fin : ∀ (c : Nat) (pre : List AV) (cap sp : Nat) (H1 : Heap), H1 c = some ⟨pre ++ (wds vals ++ [.int .u32 (w.toNat : Int)]), sp⟩ → cap ≤ vals.length + 1 + sp → c ≠ pf → ¬ l.has c → h0 c = none → (∀ d, d ≠ c → h0 d ≠ none ∨ l.has d ∨ d = pf → H1 d = H d) → Q (.sl c pre.length (vals.length + 1) cap) H1 := by
  intro c pre cap sp H1 k1 k2 k3 k4 k5 k6
  have hpf := k6 pf (Ne.symm k3) (.inr (.inr rfl))
  refine hq _ _ rfl (hpf.trans hf.fr) ⟨?_, hf.np, hf.nf, upd_same _ _ _, .inr ⟨c, pre, cap, sp, by simp, ?_, by simpa using k2, k3, k4, k5⟩, fun d hd hl => ?_, hlen⟩
  ·refine RamAt.upd ?_ hf.np
   have hm : ∀ d, l.has d → H1 d = H d := fun d hd => k6 d (fun e => k4 (e ▸ hd)) (.inr (.inl hd))
   exact ⟨hf.ram.ok, hf.ram.wf, (hm _ (.inl rfl)).trans hf.ram.hp, (hm _ (.inr (.inl rfl))).trans hf.ram.hb, (hm _ (.inr (.inr (.inl rfl)))).trans hf.ram.hw, (hm _ (.inr (.inr (.inr rfl)))).trans hf.ram.hg⟩
  ·rw [upd_ne k3, k1]; simp [wds]
  ·have d1 : d ≠ pf := fun e => hd (e ▸ hf.nf)
   have d2 : d ≠ c := fun e => hd (e ▸ k5)
   rw [upd_ne d1, k6 d d2 (.inl hd), hf.old d hd hl]
 rcases hf.vs with ⟨rfl, rfl⟩ | ⟨c, pre, cap, sp, rfl, hc, hcap, h3, h4, h5⟩
 ·simp only [appQ]
  refine ⟨by decide, by decide, fun e => by omega, fun _ c cap hc hle => ?_⟩
  have hne : c ≠ pf := fun e => by rw [e, hf.fr] at hc; cases hc
  have hnl := hf.ram.not hc
  refine fin c [] cap ((cap - 1) * 1) _ (upd_same _ _ _) (by simp; omega) hne hnl ?_ (fun d hd _ => upd_ne hd)
  cases e : h0 c with
  | none => rfl
  | some x => rw [hf.old c (by rw [e]; simp) hnl, e] at hc; cases hc
 ·simp only [appQ, hc]
  refine ⟨by simp [wds], by omega, by omega, by omega, fun c' pre' cap' sp' hc' hcap' => ?_⟩
  have hne : c' ≠ pf := by
   rcases hc' with rfl | hc'
   ·exact h3
   ·exact fun e => by rw [e, hf.fr] at hc'; cases hc'
  have hnl : ¬ l.has c' := by
   rcases hc' with rfl | hc'
   ·exact h4
   ·exact hf.ram.not hc'
  refine fin c' pre' cap' sp' _ ?_ (by omega) hne hnl ?_ (fun d hd hd2 => ?_)
  ·rw [upd_same]; simp [List.append_assoc]
  ·rcases hc' with rfl | hc'
   ·exact h5
   ·cases e : h0 c' with
    | none => rfl
    | some x => rw [hf.old c' (by rw [e]; simp) hnl, e] at hc'; cases hc'
  ·have hdc : d ≠ c := by
    rintro rfl
    rcases hd2 with q | q | q
    ·exact q h5
    ·exact h4 q
    ·exact h3 q
   rw [upd_ne hd]
   simp [era, hdc]
end
end Go.Ab
end
section
namespace Go.Ab
open Go.Proofs
variable {G : Glo} {h : Heap}
section
variable {regs : List (BitVec 32)} {pc : BitVec 32} {done why exit : Int}
end
def foldR (vals : List (BitVec 32)) (m : List IVl) (regs : List (BitVec 32)) : List (BitVec 32) := m.foldl (fun r v => r.set v.reg.toNat (lv vals v.val)) regs
def leaveR (e : IEx) (regs vals : List (BitVec 32)) : List (BitVec 32) := foldR vals e.map regs
def leaveP (e : IEx) (vals : List (BitVec 32)) : BitVec 32 := if e.to = -1 then e.pc else lv vals e.to
section
variable {H h0 : Heap} {l : Pl} {M : IRam} {pf : Nat} {b : IBk} {regs vals : List (BitVec 32)} {vv : AV}
end
end Go.Ab
end
section
namespace Go.Ab
open Go.Proofs
variable {G : Glo} {h : Heap}
def runN (regs : List (BitVec 32)) : List IOp → List (BitVec 32) → IRam → Option Int × List (BitVec 32) × IRam
 | [], vals, M => (none, vals, M)
 | o :: r, vals, M =>
  let s := stepN regs o vals M
  if s.2.1 = -1 then runN regs r (vals ++ [s.1]) s.2.2 else (some s.2.1, vals ++ [s.1], s.2.2)
section
variable {l : Pl} {M : IRam} {b : IBk} {regs : List (BitVec 32)}
end
end Go.Ab
end
section
namespace Go.Ab
structure Res where
 regs : List (BitVec 32)
 pc : BitVec 32
 done : Int
 why : Int
 ram : IRam
def resB (b : IBk) (regs : List (BitVec 32)) (r : Option Int × List (BitVec 32) × IRam) : Res :=
 ⟨leaveR (b.ex (r.1.getD b.last).toNat) regs r.2.1, leaveP (b.ex (r.1.getD b.last).toNat) r.2.1, (b.ex (r.1.getD b.last).toNat).done, (b.ex (r.1.getD b.last).toNat).why, r.2.2⟩
def IBk.res (b : IBk) (regs : List (BitVec 32)) (M : IRam) : Res := resB b regs (runN regs b.ops [] M)
theorem chk_right {b : IBk} (hc : b.check = 0) : b.right = true := by
 unfold IBk.check at hc
 split at hc
 ·cases hc
 ·split at hc
  ·assumption
  ·cases hc
theorem exit_parts {b : IBk} {n : Int} {j : Nat} (h : b.exit n j = true) : (0 ≤ n ∧ n < b.exits.length) ∧ ((b.ex n.toNat).to = -1 ∨ vin b.ops j (b.ex n.toNat).to) ∧ ∀ v ∈ (b.ex n.toNat).map, vin b.ops j v.val := by
 simp only [IBk.exit, Bool.and_eq_true, Bool.or_eq_true, decide_eq_true_eq] at h
 obtain ⟨⟨⟨h1, h2⟩, h3⟩, h4⟩ := h
 refine ⟨⟨h1, h2⟩, ?_, fun v hv => ?_⟩
 ·rcases h3 with h3 | h3
  ·exact .inl h3
  ·exact .inr (val_vin h3)
 ·obtain ⟨i, hi, rfl⟩ := List.getElem_of_mem hv
  have := val_vin (allN_get h4 i hi)
  have e2 : (b.ex n.toNat).vl i = (b.ex n.toNat).map[i] := by simp [IEx.vl, hi]
  rw [e2] at this
  exact this
theorem kind_of {b : IBk} {k : Nat} (hk : b.opR k = true) : kindN (b.ops.getD k IOp.zero) = true := by
 rw [opR_eq b k rfl] at hk
 generalize b.ops.getD k IOp.zero = o at hk
 unfold kindN
 simp only
 (repeat' split at hk)
 all_goals simp_all
theorem kind_ren (to : List Int) (o : IOp) : kindN (ren to o) = kindN o := by
 unfold ren
 split
 ·rfl
 ·split <;> rfl
def sane (o : IOp) : Prop := kindN o = true ∧ (o.code = 4 ∨ o.code = 5 ∨ o.code = 6 → 0 ≤ o.x) ∧ (o.code = 5 → 0 ≤ o.y)
theorem ren_xy (to : List Int) (o : IOp) : (ren to o).x = o.x ∧ (ren to o).y = o.y ∧ (ren to o).imm = o.imm := by
 unfold ren
 split
 ·exact ⟨rfl, rfl, rfl⟩
 ·split <;> exact ⟨rfl, rfl, rfl⟩
structure SimI (l0 : List IOp) (k : Nat) (s : Ps) (vals vals' : List (BitVec 32)) : Prop where
 i : PsI l0 k s
 n1 : vals.length = k
 n2 : vals'.length = s.l.length
 eq : ∀ i : Nat, i < k → valued (l0.getD i IOp.zero) → lv vals' (s.to.getD i 0) = lv vals i
section
variable {f : Rw} {b : IBk} {regs : List (BitVec 32)} {J : List IOp → List (BitVec 32) → IRam → Prop}
structure RwDo (f : Rw) (regs : List (BitVec 32)) (J : List IOp → List (BitVec 32) → IRam → Prop) : Prop where
 nil : ∀ M, J [] [] M
 drop : ∀ l vals M o, goodL l → vals.length = l.length → goodAt l l.length o → sane o → J l vals M → 0 ≤ (f l o).1 → stepN regs o vals M = (lv vals (f l o).1, -1, M)
 put : ∀ l vals M o, goodL l → vals.length = l.length → goodAt l l.length o → sane o → J l vals M → (f l o).1 < 0 → stepN regs (f l o).2 vals M = stepN regs o vals M
 keep : ∀ l vals M o, goodL l → vals.length = l.length → goodAt l l.length o → sane o → J l vals M → (f l o).1 < 0 → (stepN regs o vals M).2.1 = -1 → J (l ++ [(f l o).2]) (vals ++ [(stepN regs o vals M).1]) (stepN regs o vals M).2.2
end
end Go.Ab
end
section
namespace Go.Ab
def plF (n : Int) : Int := if plainN n = 0 then n else plainN n
theorem plain_rng (n : Int) (h : 19 ≤ n ∧ n ≤ 37) : 28 ≤ plainN n ∧ plainN n ≤ 37 := by
 unfold plainN
 (repeat' split) <;> omega
theorem plain_out (n : Int) (h : ¬ (19 ≤ n ∧ n ≤ 37)) : plainN n = 0 := by
 unfold plainN
 (repeat' split) <;> omega
def isK (l : List IOp) (v : Int) (n : Nat) : Bool := decide ((l.getD v.toNat IOp.zero).code = 2) && decide ((l.getD v.toNat IOp.zero).imm.toNat = n)
def shK (l : List IOp) (v : Int) : Bool := decide ((l.getD v.toNat IOp.zero).code = 2) && decide ((l.getD v.toNat IOp.zero).imm.toNat % 32 = 0)
def isCN (l : List IOp) (v : Int) : Bool := decide ((l.getD v.toNat IOp.zero).code = 2)
def neuN (l : List IOp) (p x y : Int) : Bool :=
 if p = 36 then decide (x = y) || isK l y 0 else if p = 28 ∨ p = 33 ∨ p = 29 then isK l y 0 else if p = 30 ∨ p = 34 ∨ p = 35 then shK l y
 else if p = 37 then decide (x = y) || isK l y 4294967295 else if p = 50 ∨ p = 55 then isK l y 1 else false
def turF (p : Int) : Bool := decide (p = 28 ∨ p = 36 ∨ p = 33 ∨ p = 37 ∨ p = 50)
def stdN (l : List IOp) (p x y : Int) : Int := if neuN l p x y then x else if turF p && neuN l p y x then y else -1
def nothN (l : List IOp) (p x y : Int) : Bool :=
 if p = 29 ∨ p = 33 ∨ p = 31 then decide (x = y) else if p = 32 then decide (x = y) || isK l y 0 else if p = 37 ∨ p = 50 then isK l y 0 || isK l x 0 else false
def foldF : Rw := fun l o =>
 if o.code ≠ 3 then (-1, o)
 else if isCN l o.a && isCN l o.b then (-1, IOp.num (reckN o.imm.toNat (l.getD o.a.toNat IOp.zero).imm (l.getD o.b.toNat IOp.zero).imm))
 else if 0 ≤ stdN l (plF o.imm.toNat) o.a o.b then (stdN l (plF o.imm.toNat) o.a o.b, o)
 else if nothN l (plF o.imm.toNat) o.a o.b then (-1, IOp.num 0)
 else (-1, o)
theorem std_ab {l : List IOp} {p x y : Int} (h : 0 ≤ stdN l p x y) : stdN l p x y = x ∧ neuN l p x y = true ∨ stdN l p x y = y ∧ turF p = true ∧ neuN l p y x = true := by
 unfold stdN at h ⊢
 split at h
 ·rename_i q; rw [if_pos q]; exact .inl ⟨rfl, q⟩
 ·rename_i q
  rw [if_neg q]
  split at h
  ·rename_i q2; rw [if_pos q2]
   simp only [Bool.and_eq_true] at q2
   exact .inr ⟨rfl, q2⟩
  ·omega
theorem fold_ok : RwOk foldF := by
 refine ⟨fun l o hl ho h0 hv => ?_, fun l o h0 => ?_⟩
 ·unfold foldF at h0 ⊢
  by_cases h3 : o.code ≠ 3
  ·rw [if_pos h3] at h0; simp at h0
  ·rw [if_neg h3] at h0 ⊢
   have hg := ho.1 (by omega)
   split at h0
   ·simp at h0
   ·rename_i q
    rw [if_neg q]
    split at h0
    ·rename_i q1
     rw [if_pos q1]
     simp only
     rcases std_ab q1 with ⟨e, _⟩ | ⟨e, _⟩
     ·rw [e]; exact hg.1
     ·rw [e]; exact hg.2
    ·split at h0 <;> simp at h0
 ·unfold foldF
  by_cases h3 : o.code ≠ 3
  ·rw [if_pos h3]; exact .inl rfl
  ·have h3' : o.code = 3 := by omega
   rw [if_neg h3]
   split
   ·exact .inr ⟨h3', _, rfl⟩
   ·split
    ·exact .inl rfl
    ·split
     ·exact .inr ⟨h3', _, rfl⟩
     ·exact .inl rfl
section
variable {l : List IOp} {vals : List (BitVec 32)} {M : IRam}
theorem w0 {w : BitVec 32} (h : w.toNat = 0) : w = 0#32 := BitVec.eq_of_toNat_eq (by simpa using h)
theorem w1 {w : BitVec 32} (h : w.toNat = 1) : w = 1#32 := BitVec.eq_of_toNat_eq (by simpa using h)
end
end Go.Ab
end
section
namespace Go.Ab
open Go.Proofs
variable {G : Glo} {h : Heap}
theorem rows_nil {sz : Nat} {g h : Heap} {vs : List AV} {ms : List (List AV × Nat)} (hr : Rows sz g vs ms h) (hv : vs = []) : h = g := by
 cases hr with
 | nil => rfl
 | snoc hr ho => simp at hv
theorem step_eq (f : Fw) (o : IOp) : f.step o = ⟨if 0 ≤ knownN f.l f.stored (ren f.to o) then f.l else f.l ++ [ren f.to o], f.to ++ [if 0 ≤ knownN f.l f.stored (ren f.to o) then knownN f.l f.stored (ren f.to o) else (f.l.length : Int)],
  if 0 ≤ knownN f.l f.stored (ren f.to o) then f.stored else if (ren f.to o).code = 5 then (f.l.length : Int) else f.stored⟩ := by
 unfold Fw.step
 simp only
 split <;> rfl
def mapK {α : Type} (f : α → α) (l : List α) (k : Nat) : List α := (l.take k).map f ++ l.drop k
theorem mapK_len {α : Type} (f : α → α) (l : List α) (k : Nat) : (mapK f l k).length = l.length := by simp [mapK]; omega
theorem mapK_get {α : Type} {f : α → α} {l : List α} {k : Nat} (d : α) (hk : k < l.length) : (mapK f l k).getD k d = l.getD k d := by
 have h1 : ((l.take k).map f).length = k := by simp; omega
 rw [mapK, List.getD_eq_getElem?_getD, List.getElem?_append_right (by omega), h1, Nat.sub_self]
 simp [hk]
theorem mapK_set {α : Type} {f : α → α} {l : List α} {k : Nat} (d : α) (hk : k < l.length) : (mapK f l k).set k (f (l.getD k d)) = mapK f l (k + 1) := by
 have h1 : ((l.take k).map f).length = k := by simp; omega
 rw [mapK, mapK, List.set_append_right _ _ (by omega), h1, Nat.sub_self, List.drop_eq_getElem_cons hk, List.set_cons_zero, List.take_add_one, List.map_append]
 simp [hk]
theorem Do_spec (b : IBk) (hw : b.wf) (hc : b.check = 0) : Spec Tryz.prog G 25 [bkP b] h (Is (.tup [bkP b.fw, .int .i64 0]) h) := by
 obtain ⟨hops, hexs⟩ := right_parts hc
 obtain ⟨hs1, hs2, hs3⟩ := hw.hs
 refine Spec.weak (Q := fun r h' => ∃ b9 g h2 vx, r = .tup [.ptr b9 0, .int .i64 0] ∧ Sub h g ∧ ExO g vx b.fw.exits h2 ∧ h2 b9 = none ∧
  h' = Ab.upd h2 b9 ⟨[.ro (wds b.pcs) b.pcs.length, ops b.fw.ops, vx, .int .i64 b.last], 0⟩) ?_ ?_
 ·refine Spec.walk C25ok rfl ?_
  simp only [push_cast, simprocAttr]
  refine (Check_spec b hw).to ?_
  rw [hc]
  simp only [push_cast, simprocAttr]
  refine (Clone_spec b hw).mono ?_
  rintro _ h1 ⟨c3, g, vx, rfl, hn3, hs, hc3, hx⟩
  have hc3' := hx.sub c3 _ hc3
  simp only [push_cast, simprocAttr, hc3']
  intro b5 hb5
  refine lpc.rel [5, 30, 31, 32] (fun m ρ h' => ∃ (k : Nat) (vt : AV) (g gg : Heap), m = b.ops.length - k ∧ k ≤ b.ops.length ∧ Sub h g ∧ ExO g vx b.exits gg ∧ gg b5 = none ∧ RdO gg b5 (.ro (wds b.pcs) b.pcs.length) vx (.int .i64 b.last) (fwd (b.ops.take k)).l vt (fwd (b.ops.take k)).to (fwd (b.ops.take k)).stored h' ∧
   ρ = [(5, .ptr b5 0), (30, ops b.ops), (31, .int .i64 (b.ops.length : Int)), (32, .int .i64 (k : Int))]) ⟨_, 0, .nils, g, h1, rfl, by omega, hs, hx, hb5, ⟨.nils, _, .nil, .nil⟩, rfl⟩ ?_
  rintro m _ h2 ⟨k, vt, g, gg, rfl, hk, hs, hx, hb5, hr, rfl⟩
  simp only [push_cast, simprocAttr]
  refine ⟨fun hk2 => ⟨hk2, hk2, fun c hc => ?_⟩, fun hk2 => ?_⟩
  ·rw [era_none hc]
   have hfs := fwd_succ b.ops k hk2
   have hst := step_eq (fwd (b.ops.take k)) (b.ops.getD k IOp.zero)
   rw [← hfs] at hst
   have htl : (fwd (b.ops.take k)).to.length = k := by rw [fwd_to, List.length_take]; omega
   have hll := fwd_l (b.ops.take k)
   rw [List.length_take] at hll
   have hstl := fwd_st (b.ops.take k)
   have hok := renOK_of (hops k hk2) htl
   generalize fwd (b.ops.take k) = f at *
   have hr0 := hr
   obtain ⟨vo, j1, o1, o2⟩ := hr
   have hbb := o2.get (o1.get (upd_same _ _ _))
   simp only [push_cast, simprocAttr, hbb]
   refine (fop_spec hr0 (by omega) hstl (b.ops.getD k IOp.zero) hok).mono ?_
   rintro _ h6 ⟨c', x, hcg, hcb, rfl, hr6⟩
   obtain ⟨xo, j2, x1, x2⟩ := hr6
   have hb6 := x2.get (x1.get (upd_same _ _ _))
   simp only [push_cast, simprocAttr, hb6]
   refine Own.app x2 (m := 1) rfl (by omega) (by omega) fun v3 h7 o7 => ?_
   have hb7 := o7.get (x1.get (upd_same _ _ _))
   simp (disch := omega) only [push_cast, simprocAttr, wrap_i64, toNat_ofInt64, Nat.min_eq_left, Int.toNat_of_nonneg, hb7, o7.one]
   have y2 := Own.upd o7 (b := b5) (x := ⟨[.ro (wds b.pcs) b.pcs.length, xo, vx, .int .i64 b.last, v3, .int .i64 (if 0 ≤ knownN f.l f.stored (ren f.to (b.ops.getD k IOp.zero)) then f.stored else if (ren f.to (b.ops.getD k IOp.zero)).code = 5 then (f.l.length : Int) else f.stored)], 0⟩) (.inr ⟨_, x1.get (upd_same _ _ _)⟩)
   have y1 := Own.upd x1 (b := b5) (x := ⟨[.ro (wds b.pcs) b.pcs.length, xo, vx, .int .i64 b.last, v3, .int .i64 (if 0 ≤ knownN f.l f.stored (ren f.to (b.ops.getD k IOp.zero)) then f.stored else if (ren f.to (b.ops.getD k IOp.zero)).code = 5 then (f.l.length : Int) else f.stored)], 0⟩) (.inr ⟨_, upd_same _ _ _⟩)
   rw [upd_upd] at y1
   refine ⟨_, _, by omega, .refl _, k + 1, v3, Ab.upd g c' x, Ab.upd gg c' x, rfl, by omega, sub_upd (hs.none (hx.sub.none hcg)) hs, hx.upd (.inl hcg), by rw [upd_ne (fun e => hcb e.symm)]; exact hb5, ?_, rfl⟩
   rw [hst]
   refine ⟨xo, _, y1, ?_⟩
   simp only [List.map_append, List.length_append]
   exact y2
  ·obtain rfl : k = b.ops.length := by omega
   rw [List.take_length] at hr
   obtain ⟨vo, j1, o1, o2⟩ := hr
   have hj := o1.get (upd_same _ _ _)
   have e1 := upd_self hj
   rw [← e1] at o2
   have o1' := Own.upd o1 (b := b5) (x := ⟨[.ro (wds b.pcs) b.pcs.length, vo, vx, .int .i64 b.last, .ro ((fwd b.ops).to.map (.int .i64)) (fwd b.ops).to.length, .int .i64 (fwd b.ops).stored], 0⟩) (.inr ⟨_, upd_same _ _ _⟩)
   rw [upd_upd] at o1'
   refine ⟨_, _, le_trans (Le.cell o2 (cs' := [.ro (wds b.pcs) b.pcs.length, vo, vx, .int .i64 b.last, .ro ((fwd b.ops).to.map (.int .i64)) (fwd b.ops).to.length, .int .i64 (fwd b.ops).stored]) rfl (fun i => ?_))
    (Le.cell o1' (cs' := [.ro (wds b.pcs) b.pcs.length, ops (fwd b.ops).l, vx, .int .i64 b.last, .ro ((fwd b.ops).to.map (.int .i64)) (fwd b.ops).to.length, .int .i64 (fwd b.ops).stored]) rfl (fun i => ?_)), ?_⟩
   ·match i with
    | 0 => exact .inl rfl
    | 1 => exact .inl rfl
    | 2 => exact .inl rfl
    | 3 => exact .inl rfl
    | 4 => exact .inr ⟨rfl, rfl⟩
    | 5 => exact .inl rfl
    | i + 6 => exact .inl rfl
   ·match i with
    | 0 => exact .inl rfl
    | 1 => exact .inr ⟨rfl, rfl⟩
    | 2 => exact .inl rfl
    | 3 => exact .inl rfl
    | 4 => exact .inl rfl
    | 5 => exact .inl rfl
    | i + 6 => exact .inl rfl
   clear o1 o2 o1' hj e1
   have htl := fwd_to b.ops
   have hx2 := hx.upd (x := ⟨[.ro (wds b.pcs) b.pcs.length, ops (fwd b.ops).l, vx, .int .i64 b.last, .ro ((fwd b.ops).to.map (.int .i64)) (fwd b.ops).to.length, .int .i64 (fwd b.ops).stored], 0⟩) (.inl hb5)
   have hG := upd_same g b5 (⟨[.ro (wds b.pcs) b.pcs.length, ops (fwd b.ops).l, vx, .int .i64 b.last, .ro ((fwd b.ops).to.map (.int .i64)) (fwd b.ops).to.length, .int .i64 (fwd b.ops).stored], 0⟩)
   have hsG : Sub h (Ab.upd g b5 ⟨[.ro (wds b.pcs) b.pcs.length, ops (fwd b.ops).l, vx, .int .i64 b.last, .ro ((fwd b.ops).to.map (.int .i64)) (fwd b.ops).to.length, .int .i64 (fwd b.ops).stored], 0⟩) := sub_upd (hs.none (hx.sub.none hb5)) hs
   generalize Ab.upd g b5 _ = G1 at hx2 hG hsG
   generalize Ab.upd gg b5 _ = H1 at hx2 ⊢
   have hH := hx2.sub b5 _ hG
   have hal : alen vx = some b.exits.length := by
    obtain ⟨_, _, o, _⟩ := hx2
    exact o.alen
   simp only [push_cast, simprocAttr, hH, hal]
   refine lpc.rel [5, 55, 56] (fun m ρ h' => ∃ k : Nat, m = b.exits.length - k ∧ k ≤ b.exits.length ∧ ExO G1 vx (mapK (renE (fwd b.ops).to) b.exits k) h' ∧
    ρ = [(5, .ptr b5 0), (55, .int .i64 (b.exits.length : Int)), (56, .int .i64 (k : Int))]) ⟨_, 0, rfl, by omega, hx2, rfl⟩ ?_
   rintro m _ h3 ⟨k, rfl, hk, hx3, rfl⟩
   have hH3 := hx3.sub b5 _ hG
   by_cases hk2 : k < b.exits.length
   ·have hlk := mapK_len (renE (fwd b.ops).to) b.exits k
    have hx4 := hx3
    obtain ⟨h4, ws, o, r⟩ := hx4
    obtain ⟨br, pre, cap, sp, hv, e2, e3, e4⟩ := own_lie o (by omega)
    rw [hlk] at hv
    subst hv
    have hgk := mapK_get (f := renE (fwd b.ops).to) IEx.zero hk2
    have hml := getD_map (n := k) hs3
    simp only [push_cast, simprocAttr, hH3, hk2]
    refine (exit2_spec hG hx3 (by omega) (by omega) (by rw [hgk]; exact exOK_of (hexs k hk2) htl) (by rw [hgk]; exact hml)).mono ?_
    rintro _ h5 hx5
    rw [hgk, mapK_set _ hk2] at hx5
    simp (disch := omega) only [push_cast, simprocAttr, wrap_i64, toNat_ofInt64, Nat.min_eq_left, Int.toNat_of_nonneg]
    exact ⟨_, _, by omega, .refl _, k + 1, rfl, by omega, hx5, rfl⟩
   ·obtain rfl : k = b.exits.length := by omega
    have hme : mapK (renE (fwd b.ops).to) b.exits b.exits.length = b.fw.exits := by simp [mapK, IBk.fw]
    rw [hme] at hx3
    simp only [push_cast, simprocAttr, hH3, hk2]
    intro b9 hb9
    simp only [push_cast, simprocAttr]
    exact ⟨b9, G1, h3, vx, rfl, hsG, hx3, hb9, rfl⟩
 ·rintro _ _ ⟨b9, g, h2, vx, rfl, hs, hx, hb9, rfl⟩
  have hx2 := hx.upd (x := ⟨[.ro (wds b.pcs) b.pcs.length, ops b.fw.ops, vx, .int .i64 b.last], 0⟩) (.inl hb9)
  have hg9 := hx.sub.none hb9
  refine ⟨_, _, ⟨rfl, rfl⟩, le_tup1 ?_⟩
  obtain ⟨h3, ws, o, r⟩ := hx2
  have hwl : ws.length = b.fw.exits.length := by have := r.len; simpa using this
  have key : ∀ H, Own 5 (Ab.upd g b9 ⟨[.ro (wds b.pcs) b.pcs.length, ops b.fw.ops, vx, .int .i64 b.last], 0⟩) vx (b.fw.exits.flatMap IEx.cells) b.fw.exits.length H → Le (.ptr b9 0) H (bkP b.fw) h := by
   intro H oH
   refine le_trans (Le.cell oH (cs' := b.fw.cells) rfl (fun i => ?_)) (le_trans (Le.box hg9) (le_sub hs (Le.refl _ _)))
   match i with
   | 0 => exact .inl rfl
   | 1 => exact .inl rfl
   | 2 => exact .inr ⟨rfl, rfl⟩
   | 3 => exact .inl rfl
   | i + 4 => exact .inl rfl
  by_cases h0 : b.fw.exits.length = 0
  ·have he : b.fw.exits = [] := List.eq_nil_of_length_eq_zero h0
   rw [he] at o r key
   have hws : ws = [] := List.eq_nil_of_length_eq_zero (by omega)
   obtain rfl := rows_nil r hws
   rw [hws] at o
   exact key _ o
  ·obtain ⟨br, pre, cap, sp, rfl, e2, e3, e4⟩ := own_lie o (by omega)
   have e5 := upd_self e2
   rw [← e5] at r
   refine le_trans (Rows.freeze r (cs' := pre ++ b.fw.exits.flatMap IEx.cells) ?_ ?_) (key _ (e4 _ ?_))
   ·rw [List.length_append, List.length_append, rowOf_len _ _ hwl, flat_len IEx.cells 5 _ (fun x _ => IEx.len x)]
   ·intro i
    by_cases hi : i < pre.length
    ·left
     rw [List.getElem?_append_left hi, List.getElem?_append_left hi]
    ·rw [List.getElem?_append_right (by omega), List.getElem?_append_right (by omega)]
     generalize i - pre.length = q
     by_cases hq : q < b.fw.exits.length * 5
     ·have hq2 : q = q / 5 * 5 + q % 5 := by omega
      have hk : q / 5 < b.fw.exits.length := by omega
      have hj : q % 5 < 5 := by omega
      generalize q / 5 = k at hq2 hk
      generalize q % 5 = j at hq2 hj
      subst hq2
      rw [rowOf_get _ _ _ _ hwl hk hj, flat_getD IEx.cells 5 _ IEx.zero IEx.len _ _ hj, if_pos hk]
      match j, hj with
      | 0, _ => exact .inl rfl
      | 1, _ => exact .inl rfl
      | 2, _ => exact .inl rfl
      | 3, _ => exact .inl rfl
      | 4, _ => exact .inr ⟨k, ws.getD k .nils, (mp (b.fw.exits.getD k IEx.zero)).1, (mp (b.fw.exits.getD k IEx.zero)).2, by simp [hwl, hk], by simp [hk], rfl, rfl⟩
     ·left
      rw [List.getElem?_eq_none, List.getElem?_eq_none]
      ·rw [rowOf_len _ _ hwl]; omega
      ·rw [flat_len IEx.cells 5 _ (fun x _ => IEx.len x)]; omega
   ·rw [rowOf_len _ _ hwl, flat_len IEx.cells 5 _ (fun x _ => IEx.len x)]
end Go.Ab
end
section
namespace Go.Ab
open Go.Proofs
variable {G : Glo} {h : Heap}
theorem Arg1.box {h : Heap} {b sp : Nat} {cells cells' : List AV} (hb : h b = some ⟨cells, sp⟩) (hl : cells'.length ≤ cells.length) (ha : ∀ (i : Nat) a a', cells[i]? = some a → cells'[i]? = some a' → Arg1 h a a') : Arg1 h (.ptr b 0) (.cp cells' 0) := by
 intro w v hw hr
 cases hr with
 | ptr _ _ hk =>
  have hat := hw.at hb hk
  have key : ∀ (i : Nat) a', cells'[i]? = some a' → ∃ cv, w.cell? ⟨b, 0 + i, none⟩ = some cv ∧ cv.oneCell' = true ∧ Rep w (fun _ => False) a' cv := by
   intro i a' hi
   have hlt := (List.getElem?_eq_some_iff.1 hi).1
   obtain ⟨cv, e1, e2, e3⟩ := hat i (cells[i]'(by omega)) (List.getElem?_eq_getElem _)
   exact ⟨cv, e1, e2, ha i _ _ (List.getElem?_eq_getElem _) hi w cv hw e3⟩
  refine .cp cells' 0 b 0 (fun i => (w.cell? ⟨b, 0 + i, none⟩).getD undef) (own_lt (hw b _ hb)) (fun h => h) (fun i a' hi => ?_) (fun i a' hi => ?_)
  ·obtain ⟨cv, e1, e2, _⟩ := key i a' hi
   rw [e1]; exact ⟨rfl, e2⟩
  ·obtain ⟨cv, e1, _, e3⟩ := key i a' hi
   rw [e1]; exact e3
theorem Arg1.any (h : Heap) (a : AV) : Arg1 h a .any := fun _ _ _ _ => .any _
abbrev psV (l : List IOp) (to : List Int) (rest : List AV) : AV := .cp (.cp [.any, ops l, .any, .any] 0 :: ints to :: rest) 0
theorem fnumber_spec (l : List IOp) (to : List Int) (v : Int) (h0 : 0 ≤ v) (h1 : v < l.length) : Spec Tryz.prog G 148 [psV l to [], .int .i64 v] h (Is (.tup [.int .u32 (l.getD v.toNat IOp.zero).imm.toNat, .bool (decide ((l.getD v.toNat IOp.zero).code = 2))]) h) := by
 have q : v.toNat < l.length := by omega
 refine Spec.is C148ok rfl ?_
 simp only [push_cast, simprocAttr, q, h0, h1]
 intro b hb
 rw [era_none hb]
 refine ⟨?_, .refl _⟩
 congr 3
theorem num32 (w : BitVec 32) (n : Nat) (hn : n < 4294967296) : ((w.toNat : Int) == (n : Int)) = decide (w.toNat = n) := by
 rw [Bool.eq_iff_iff, beq_iff_eq, decide_eq_true_eq]; omega
section
variable {l : List IOp} {to : List Int} {x y : Int}
theorem fis_spec (n : Nat) (hn : n < 4294967296) (h0 : 0 ≤ x) (h1 : x < l.length) : Spec Tryz.prog G 164 [psV l to [], .int .i64 x, .int .u32 n] h (Is (.bool (isK l x n)) h) := by
 have hN := fnumber_spec (G := G) (h := h) l to x h0 h1
 have hI : isK l x n = (decide ((l.getD x.toNat IOp.zero).code = 2) && decide ((l.getD x.toNat IOp.zero).imm.toNat = n)) := rfl
 generalize isK l x n = X at *
 have hq := num32 (l.getD x.toNat IOp.zero).imm n hn
 generalize l.getD x.toNat IOp.zero = o at *
 refine Spec.is C164ok rfl ?_
 simp only [push_cast, simprocAttr]
 refine hN.to ?_
 by_cases c : o.code = 2
 ·rw [decide_eq_true c] at hI ⊢
  simp only [push_cast, simprocAttr, hq]
  rw [hI, Bool.true_and]
 ·rw [decide_eq_false c] at hI ⊢
  simp only [push_cast, simprocAttr]
  rw [hI, Bool.false_and]
theorem fneutral_spec (p : Int) (hx0 : 0 ≤ x) (hx : x < l.length) (hy0 : 0 ≤ y) (hy : y < l.length) : Spec Tryz.prog G 162 [psV l to [], .int .i64 p, .int .i64 x, .int .i64 y] h (Is (.bool (neuN l p x y)) h) := by
 have k0 := fis_spec (G := G) (h := h) (to := to) 0 (by omega) hy0 hy
 have k1 := fis_spec (G := G) (h := h) (to := to) 1 (by omega) hy0 hy
 have kA := fis_spec (G := G) (h := h) (to := to) 4294967295 (by omega) hy0 hy
 have kN := fnumber_spec (G := G) (h := h) l to y hy0 hy
 have hS : shK l y = (decide ((l.getD y.toNat IOp.zero).code = 2) && decide ((l.getD y.toNat IOp.zero).imm.toNat % 32 = 0)) := rfl
 unfold neuN
 generalize isK l y 0 = i0 at *
 generalize isK l y 1 = i1 at *
 generalize isK l y 4294967295 = iA at *
 generalize shK l y = sh at *
 generalize l.getD y.toNat IOp.zero = o at *
 refine Spec.is C162ok rfl ?_
 by_cases c36 : p = 36
 ·subst c36
  by_cases e : x = y
  ·simp only [push_cast, simprocAttr, e]
   try simp
  ·simp only [push_cast, simprocAttr, e]
   refine k0.to ?_
   simp only [push_cast, simprocAttr]
   try simp [e]
 by_cases c28 : p = 28 ∨ p = 33 ∨ p = 29
 ·rcases c28 with rfl | rfl | rfl <;>
  ·simp only [push_cast, simprocAttr]
   refine k0.to ?_
   simp only [push_cast, simprocAttr]
   simp
 by_cases c30 : p = 30 ∨ p = 34 ∨ p = 35
 ·rcases c30 with rfl | rfl | rfl <;>
  ·simp only [push_cast, simprocAttr]
   refine kN.to ?_
   by_cases c : o.code = 2
   ·rw [decide_eq_true c] at hS ⊢
    simp only [push_cast, simprocAttr]
    rw [hS]
    simp
    rw [show o.imm.toNat &&& 31 = o.imm.toNat % 32 from Nat.and_two_pow_sub_one_eq_mod _ 5, Bool.eq_iff_iff, beq_iff_eq, decide_eq_true_eq]
    omega
   ·rw [decide_eq_false c] at hS ⊢
    simp only [push_cast, simprocAttr]
    rw [hS]
    simp
 by_cases c37 : p = 37
 ·subst c37
  by_cases e : x = y
  ·simp only [push_cast, simprocAttr, e]
   simp
  ·simp only [push_cast, simprocAttr, e]
   refine kA.to ?_
   simp only [push_cast, simprocAttr]
   try simp [e]
 by_cases c50 : p = 50 ∨ p = 55
 ·rcases c50 with rfl | rfl <;>
  ·simp only [push_cast, simprocAttr]
   refine k1.to ?_
   simp only [push_cast, simprocAttr]
   simp
 ·have d1 : ¬ p = 28 := by omega
  have d2 : ¬ p = 33 := by omega
  have d3 : ¬ p = 29 := by omega
  have d4 : ¬ p = 30 := by omega
  have d5 : ¬ p = 34 := by omega
  have d6 : ¬ p = 35 := by omega
  have d7 : ¬ p = 50 := by omega
  have d8 : ¬ p = 55 := by omega
  simp only [push_cast, simprocAttr, c36, c37, d1, d2, d3, d4, d5, d6, d7, d8]
  simp
theorem fnothing_spec (p : Int) (hx0 : 0 ≤ x) (hx : x < l.length) (hy0 : 0 ≤ y) (hy : y < l.length) : Spec Tryz.prog G 152 [psV l to [], .int .i64 p, .int .i64 x, .int .i64 y] h (Is (.bool (nothN l p x y)) h) := by
 have k0 := fis_spec (G := G) (h := h) (to := to) 0 (by omega) hy0 hy
 have j0 := fis_spec (G := G) (h := h) (to := to) 0 (by omega) hx0 hx
 unfold nothN
 generalize isK l y 0 = i0 at *
 generalize isK l x 0 = ix at *
 have exy : ((x : Int) == y) = decide (x = y) := rfl
 refine Spec.is C152ok rfl ?_
 by_cases c29 : p = 29 ∨ p = 33 ∨ p = 31
 ·rcases c29 with rfl | rfl | rfl <;>
  ·simp only [push_cast, simprocAttr, exy]
   try simp
 by_cases c32 : p = 32
 ·subst c32
  by_cases e : x = y
  ·simp only [push_cast, simprocAttr, e]
   try simp
  ·simp only [push_cast, simprocAttr, e]
   refine k0.to ?_
   simp only [push_cast, simprocAttr]
   try simp [e]
 by_cases c37 : p = 37 ∨ p = 50
 ·rcases c37 with rfl | rfl <;>
  ·simp only [push_cast, simprocAttr]
   refine k0.to ?_
   cases i0 with
   | true => simp only [push_cast, simprocAttr]; try simp
   | false =>
    simp only [push_cast, simprocAttr]
    refine j0.to ?_
    simp only [push_cast, simprocAttr]
    try simp
 ·have d1 : ¬ p = 29 := by omega
  have d2 : ¬ p = 33 := by omega
  have d3 : ¬ p = 31 := by omega
  have d4 : ¬ p = 37 := by omega
  have d5 : ¬ p = 50 := by omega
  simp only [push_cast, simprocAttr, c32, d1, d2, d3, d4, d5]
  try simp
theorem fturns_spec (p : Int) : Spec Tryz.prog G 163 [.int .i64 p] h (Is (.bool (turF p)) h) := by
 unfold turF
 refine Spec.is C163ok rfl ?_
 by_cases c : p = 28 ∨ p = 36 ∨ p = 33 ∨ p = 37 ∨ p = 50
 ·rcases c with rfl | rfl | rfl | rfl | rfl <;>
  ·simp only [push_cast, simprocAttr]
   try simp
 ·have d1 : ¬ p = 28 := by omega
  have d2 : ¬ p = 36 := by omega
  have d3 : ¬ p = 33 := by omega
  have d4 : ¬ p = 37 := by omega
  have d5 : ¬ p = 50 := by omega
  simp only [push_cast, simprocAttr, d1, d2, d3, d4, d5]
  try simp
theorem fplain_spec (n : Int) : Spec Tryz.prog G 149 [.int .i64 n] h (Is (.int .i64 (plF n)) h) := by
 have hP := Plain_spec (G := G) (h := h) n
 unfold plF
 generalize plainN n = q at *
 refine Spec.is C149ok rfl ?_
 simp only [push_cast, simprocAttr]
 refine hP.to ?_
 by_cases c : q = 0
 ·simp only [push_cast, simprocAttr, c]
 ·simp only [push_cast, simprocAttr, c]
theorem fstands_spec (p : Int) (hx0 : 0 ≤ x) (hx : x < l.length) (hy0 : 0 ≤ y) (hy : y < l.length) : Spec Tryz.prog G 151 [psV l to [], .int .i64 p, .int .i64 x, .int .i64 y] h (Is (.int .i64 (stdN l p x y)) h) := by
 have k0 := fneutral_spec (G := G) (h := h) (to := to) p hx0 hx hy0 hy
 have k1 := fneutral_spec (G := G) (h := h) (to := to) p hy0 hy hx0 hx
 have kt := fturns_spec (G := G) (h := h) p
 unfold stdN
 generalize neuN l p x y = n0 at *
 generalize neuN l p y x = n1 at *
 generalize turF p = tu at *
 refine Spec.is C151ok rfl ?_
 simp only [push_cast, simprocAttr]
 refine k0.to ?_
 cases n0 with
 | true => simp only [push_cast, simprocAttr]; try simp
 | false =>
  simp only [push_cast, simprocAttr]
  refine kt.to ?_
  cases tu with
  | false => simp only [push_cast, simprocAttr]; try simp
  | true =>
   simp only [push_cast, simprocAttr]
   refine k1.to ?_
   cases n1 with
   | true => simp only [push_cast, simprocAttr]; try simp
   | false => simp only [push_cast, simprocAttr]; try simp
end
end Go.Ab
end
section
namespace Go.Ab
open Go.Proofs
variable {G : Glo} {h : Heap}
theorem borrow_is {P : Program} {f : FuncId} {args args' : List AV} {h : Heap} {v : AV} (hs : Spec P G f args' noH (Is v noH)) (ha : Args1 h args args') (hv : flatV v = true) : Spec P G f args h (Is v h) :=
 Spec.borrow hs ha fun r h1 e => ⟨by rw [e.1]; exact hv, e.1, rfl⟩
def PsO (g : Heap) (b5 c3 : Nat) (p vx last : AV) (l : List IOp) (vt : AV) (to : List Int) (rest : List AV) (h : Heap) : Prop :=
 b5 ≠ c3 ∧ ∃ vo h1, Own 6 (Ab.upd (Ab.upd g c3 ⟨[p, vo, vx, last], 0⟩) b5 ⟨.ptr c3 0 :: vt :: rest, 0⟩) vo (l.flatMap IOp.cells) l.length h1 ∧ Own 1 h1 vt (to.map (.int .i64)) to.length h
section
variable {g : Heap} {b5 c3 : Nat} {p vx last vt : AV} {l : List IOp} {to : List Int} {rest : List AV}
theorem PsO.at (hr : PsO g b5 c3 p vx last l vt to rest h) : ∃ vo, h c3 = some ⟨[p, vo, vx, last], 0⟩ ∧ h b5 = some ⟨.ptr c3 0 :: vt :: rest, 0⟩ ∧ Arg1 h vo (ops l) ∧ Arg1 h vt (ints to) ∧ alen vo = some l.length ∧ (∃ g1, Own 6 g1 vo (l.flatMap IOp.cells) l.length h) ∧ ∃ g2, Own 1 g2 vt (to.map (.int .i64)) to.length h := by
 obtain ⟨hn, vo, h1, o1, o2⟩ := hr
 obtain ⟨h2, o3, o4⟩ := own_swap o1 o2
 have hb5 := o2.get (o1.get (upd_same _ _ _))
 have hc3 := o2.get (o1.get (b := c3) (by rw [upd_ne (Ne.symm hn)]; exact upd_same _ _ _))
 have ha := o2.arg
 exact ⟨vo, hc3, hb5, o4.arg, ha, o4.alen, ⟨_, o4⟩, _, o2⟩
theorem PsO.arg (hr : PsO g b5 c3 p vx last l vt to rest h) : Arg1 h (.ptr b5 0) (psV l to rest) := by
 obtain ⟨vo, hc3, hb5, a1, a2, _, _, _⟩ := hr.at
 refine Arg1.box hb5 (by simp) fun i a a' h1 h2 => ?_
 match i with
 | 0 =>
  cases h1; cases h2
  refine Arg1.box hc3 (by simp) fun i a a' h1 h2 => ?_
  match i with
  | 0 => cases h2; exact Arg1.any _ _
  | 1 => cases h1; cases h2; exact a1
  | 2 => cases h2; exact Arg1.any _ _
  | 3 => cases h2; exact Arg1.any _ _
  | i + 4 => cases h1
 | 1 => cases h1; cases h2; exact a2
 | i + 2 =>
  simp only [List.getElem?_cons_succ] at h1 h2
  rw [h1] at h2
  cases h2
  exact Arg1.same _ _
theorem PsO.upd (hr : PsO g b5 c3 p vx last l vt to rest h) {b : Nat} {x : Blk} (hb : h b = none) : PsO (Ab.upd g b x) b5 c3 p vx last l vt to rest (Ab.upd h b x) ∧ b ≠ b5 ∧ b ≠ c3 ∧ g b = none := by
 obtain ⟨hn, vo, h1, o1, o2⟩ := hr
 have n1 := o2.sub.none hb
 have n2 := o1.sub.none n1
 have hne := upd_none n2
 have hne2 := upd_none hne.2
 refine ⟨⟨hn, vo, _, ?_, o2.upd (.inl hb)⟩, hne.1, hne2.1, hne2.2⟩
 have e : Ab.upd (Ab.upd (Ab.upd g b x) c3 ⟨[p, vo, vx, last], 0⟩) b5 ⟨.ptr c3 0 :: vt :: rest, 0⟩ = Ab.upd (Ab.upd (Ab.upd g c3 ⟨[p, vo, vx, last], 0⟩) b5 ⟨.ptr c3 0 :: vt :: rest, 0⟩) b x := by
  rw [upd_comm (h := Ab.upd g c3 ⟨[p, vo, vx, last], 0⟩) (Ne.symm hne.1), upd_comm (h := g) (Ne.symm hne2.1)]
 rw [e]
 exact o1.upd (.inl n1)
theorem PsO.made {h2 h5 : Heap} {v5 : AV} {l' : List IOp} (hn : b5 ≠ c3) {vo : AV} (o3 : Own 1 (Ab.upd (Ab.upd g c3 ⟨[p, vo, vx, last], 0⟩) b5 ⟨.ptr c3 0 :: vt :: rest, 0⟩) vt (to.map (.int .i64)) to.length h2) (o5 : Own 6 h2 v5 (l'.flatMap IOp.cells) l'.length h5) :
  PsO g b5 c3 p vx last l' vt to rest (Ab.upd h5 c3 ⟨[p, v5, vx, last], 0⟩) := by
 have hc3 : Ab.upd (Ab.upd g c3 ⟨[p, vo, vx, last], 0⟩) b5 ⟨.ptr c3 0 :: vt :: rest, 0⟩ c3 = some ⟨[p, vo, vx, last], 0⟩ := by rw [upd_ne (Ne.symm hn)]; exact upd_same _ _ _
 have o6 := Own.upd o5 (b := c3) (x := ⟨[p, v5, vx, last], 0⟩) (.inr ⟨_, o3.get hc3⟩)
 have o7 := Own.upd o3 (b := c3) (x := ⟨[p, v5, vx, last], 0⟩) (.inr ⟨_, hc3⟩)
 rw [upd_comm (h := Ab.upd g c3 ⟨[p, vo, vx, last], 0⟩) hn, upd_upd] at o7
 obtain ⟨h8, o8, o9⟩ := own_swap o7 o6
 exact ⟨hn, v5, h8, o8, o9⟩
theorem fput_spec (hr : PsO g b5 c3 p vx last l vt to [] h) (hl : l.length + 1 ≤ 1000000000000) (o : IOp) :
  Spec Tryz.prog G 133 [.ptr b5 0, .agg o.cells] h (fun r h' => r = .int .i64 l.length ∧ PsO g b5 c3 p vx last (l ++ [o]) vt to [] h') := by
 obtain ⟨hn, vo, h1, o1, o2⟩ := hr
 obtain ⟨h2, o3, o4⟩ := own_swap o1 o2
 have kb5 := upd_same (Ab.upd g c3 ⟨[p, vo, vx, last], 0⟩) b5 ⟨.ptr c3 0 :: vt :: [], 0⟩
 have kc3 : Ab.upd (Ab.upd g c3 ⟨[p, vo, vx, last], 0⟩) b5 ⟨.ptr c3 0 :: vt :: [], 0⟩ c3 = some ⟨[p, vo, vx, last], 0⟩ := by rw [upd_ne (Ne.symm hn)]; exact upd_same _ _ _
 have hb5 := o4.get (o3.get kb5)
 have hc3 := o4.get (o3.get kc3)
 refine Spec.walk C133ok rfl ?_
 simp only [push_cast, simprocAttr, hb5, hc3]
 refine Own.app o4 (m := 1) (IOp.len _) (by omega) (by omega) fun v5 h5 o5 => ?_
 have hb55 := o5.get (o3.get kb5)
 have hc35 := o5.get (o3.get kc3)
 have o5' : Own 6 h2 v5 ((l ++ [o]).flatMap IOp.cells) (l ++ [o]).length h5 := by simpa using o5
 have hm := PsO.made hn o3 o5'
 have hal := o5'.alen
 have u5 : Ab.upd h5 c3 ⟨[p, v5, vx, last], 0⟩ b5 = some ⟨.ptr c3 0 :: vt :: [], 0⟩ := by rw [upd_ne hn]; exact hb55
 have u3 := upd_same h5 c3 ⟨[p, v5, vx, last], 0⟩
 simp only [push_cast, simprocAttr, hb55, hc35, o5.one, u5, u3, hal]
 refine ⟨?_, hm⟩
 have e : ((l ++ [o]).length : Int) - 1 = l.length := by simp
 rw [e, wrap_i64 (by omega) (by omega)]
theorem falu_spec (hr : PsO g b5 c3 p vx last l vt to [] h) (hl : l.length + 1 ≤ 1000000000000) (o : IOp) (h3 : o.code = 3) (hk : reckonsN o.imm.toNat = true) (ha : 0 ≤ o.a ∧ o.a < l.length) (hb : 0 ≤ o.b ∧ o.b < l.length) :
  Spec Tryz.prog G 132 [.ptr b5 0, .agg o.cells] h (fun r h' => r = .int .i64 (if 0 ≤ (foldF l o).1 then (foldF l o).1 else l.length) ∧ PsO g b5 c3 p vx last (if 0 ≤ (foldF l o).1 then l else l ++ [(foldF l o).2]) vt to [] h') := by
 have har := hr.arg
 have kA := borrow_is (fnumber_spec (G := G) (h := noH) l to o.a ha.1 ha.2) (h := h) (.cons har (.cons (.same _ _) .nil)) rfl
 have kB := borrow_is (fnumber_spec (G := G) (h := noH) l to o.b hb.1 hb.2) (h := h) (.cons har (.cons (.same _ _) .nil)) rfl
 have kS := borrow_is (fstands_spec (G := G) (h := noH) (l := l) (to := to) (plF o.imm.toNat) ha.1 ha.2 hb.1 hb.2) (h := h) (.cons har (.cons (.same _ _) (.cons (.same _ _) (.cons (.same _ _) .nil)))) rfl
 have kN := borrow_is (fnothing_spec (G := G) (h := noH) (l := l) (to := to) (plF o.imm.toNat) ha.1 ha.2 hb.1 hb.2) (h := h) (.cons har (.cons (.same _ _) (.cons (.same _ _) (.cons (.same _ _) .nil)))) rfl
 have kP := fplain_spec (G := G) (h := h) o.imm.toNat
 have hput := fun o' => fput_spec (G := G) hr hl o'
 have hF : foldF l o = if isCN l o.a && isCN l o.b then (-1, IOp.num (reckN o.imm.toNat (l.getD o.a.toNat IOp.zero).imm (l.getD o.b.toNat IOp.zero).imm))
   else if 0 ≤ stdN l (plF o.imm.toNat) o.a o.b then (stdN l (plF o.imm.toNat) o.a o.b, o) else if nothN l (plF o.imm.toNat) o.a o.b then (-1, IOp.num 0) else (-1, o) := by
  unfold foldF; rw [if_neg (by omega)]
 have hca : isCN l o.a = decide ((l.getD o.a.toNat IOp.zero).code = 2) := rfl
 have hcb : isCN l o.b = decide ((l.getD o.b.toNat IOp.zero).code = 2) := rfl
 have hPu := fun a b => Pure_spec (G := G) (h := h) o a b
 have hpn : ∀ a b, (pureN o a b).1 = reckN o.imm.toNat a b := fun a b => by unfold pureN; rw [if_neg (by omega), if_pos h3, if_pos hk]
 have hn0 : [AV.int .i64 2, .int .i64 0, .int .i64 0, .int .u32 0, .int .i64 0, .int .i64 0] = (IOp.num 0).cells := rfl
 have hnw : ∀ w : BitVec 32, [AV.int .i64 2, .int .i64 0, .int .i64 0, .int .u32 (w.toNat : Int), .int .i64 0, .int .i64 0] = (IOp.num w).cells := fun _ => rfl
 generalize foldF l o = F at *
 generalize stdN l (plF o.imm.toNat) o.a o.b = sd at *
 generalize nothN l (plF o.imm.toNat) o.a o.b = nt at *
 rw [hca, hcb] at hF
 generalize l.getD o.a.toNat IOp.zero = x at *
 generalize l.getD o.b.toNat IOp.zero = y at *
 refine Spec.walk C132ok rfl ?_
 simp only [push_cast, simprocAttr]
 refine kA.to ?_
 simp only [push_cast, simprocAttr]
 refine kB.to ?_
 simp only [push_cast, simprocAttr]
 refine kP.to ?_
 simp only [push_cast, simprocAttr]
 refine ⟨fun c1 => ?_, fun c1 => ?_⟩
 ·rw [decide_eq_true c1.1, decide_eq_true c1.2, Bool.and_true, if_pos rfl] at hF
  refine (hPu x.imm y.imm).to ?_
  rw [hpn]
  simp only [push_cast, simprocAttr, hnw]
  rw [hF]
  exact hput _
 ·rw [c1, if_neg (by simp)] at hF
  refine kS.to ?_
  by_cases c2 : 0 ≤ sd
  ·have c2' : sd ≥ 0 := c2
   rw [if_pos c2] at hF
   simp only [push_cast, simprocAttr, c2']
   rw [hF]
   exact ⟨by rw [if_pos c2], by rw [if_pos c2]; exact hr⟩
  ·have c2' : ¬ (sd ≥ 0) := c2
   rw [if_neg c2] at hF
   simp only [push_cast, simprocAttr, c2']
   refine kN.to ?_
   cases nt with
   | true =>
    rw [if_pos rfl] at hF
    simp only [push_cast, simprocAttr, hn0]
    rw [hF]
    exact hput _
   | false =>
    rw [if_neg (by simp)] at hF
    simp only [push_cast, simprocAttr]
    rw [hF]
    exact hput _
def OpP (f : Rw) (g : Heap) (b5 c3 : Nat) (p vx last : AV) (l : List IOp) (vt : AV) (to : List Int) (R : List IOp → List AV) (o : IOp) (r : AV) (h' : Heap) : Prop :=
 ∃ c x, g c = none ∧ c ≠ b5 ∧ c ≠ c3 ∧ r = .int .i64 (if 0 ≤ (f l o).1 then (f l o).1 else l.length) ∧ PsO (Ab.upd g c x) b5 c3 p vx last (if 0 ≤ (f l o).1 then l else l ++ [(f l o).2]) vt to (R (if 0 ≤ (f l o).1 then l else l ++ [(f l o).2])) h'
theorem fopf_spec (hr : PsO g b5 c3 p vx last l vt to [] h) (hl : l.length + 1 ≤ 1000000000000) (o : IOp) (hR : renOK to o) (hk : o.code = 3 → reckonsN o.imm.toNat = true ∧ (0 ≤ (ren to o).a ∧ (ren to o).a < l.length) ∧ 0 ≤ (ren to o).b ∧ (ren to o).b < l.length) :
  Spec Tryz.prog G 104 [.ptr b5 0, .agg o.cells] h (OpP foldF g b5 c3 p vx last l vt to (fun _ => []) (ren to o)) := by
 obtain ⟨hR1, hR2⟩ := hR
 refine Spec.walk C104ok rfl ?_
 have fin : ∀ b3, h b3 = none → ∀ H, H = Ab.upd h b3 ⟨(ren to o).cells, 0⟩ → wpc Tryz.prog G Tryz.f104.ntmps C104_32 (retQ C104r (OpP foldF g b5 c3 p vx last l vt to (fun _ => []) (ren to o))) [(0, .ptr b5 0), (3, .ptr b3 0)] H := by
  rintro b3 hb3 H rfl
  obtain ⟨hu, n5, n3, hg3⟩ := hr.upd (x := ⟨(ren to o).cells, 0⟩) hb3
  have hbb := upd_same h b3 ⟨(ren to o).cells, 0⟩
  have hcode := ren_code to o
  have himm := (ren_xy to o).2.2
  generalize ren to o = o' at *
  generalize Ab.upd h b3 ⟨o'.cells, 0⟩ = H at *
  by_cases c3' : o'.code = 3
  ·obtain ⟨k1, k2, k3⟩ := hk (by omega)
   simp only [push_cast, simprocAttr, hbb, c3']
   refine (falu_spec hu hl o' c3' (by rw [himm]; exact k1) k2 k3).mono ?_
   rintro _ h6 ⟨rfl, hr6⟩
   simp only [push_cast, simprocAttr]
   exact ⟨b3, _, hg3, n5, n3, rfl, hr6⟩
  ·have hF : foldF l o' = (-1, o') := by unfold foldF; rw [if_pos c3']
   simp only [push_cast, simprocAttr, hbb, c3']
   refine (fput_spec hu hl o').mono ?_
   rintro _ h6 ⟨rfl, hr6⟩
   simp only [push_cast, simprocAttr]
   refine ⟨b3, ⟨o'.cells, 0⟩, hg3, n5, n3, ?_, ?_⟩
   ·rw [hF, if_neg (by simp)]
   ·rw [hF, if_neg (by simp)]; exact hr6
 show wpc _ _ _ (.seq [0,3] C104_0 (.seq [0,3] C104_24 C104_32)) _ _ _
 generalize C104_32 = Y at fin ⊢
 simp only [push_cast, simprocAttr]
 intro b3 hb3
 have fin := fin b3 hb3
 obtain ⟨vo, hc3, hb5, _, _, _, _, g2, o2⟩ := hr.at
 have n3b : ¬ b5 = b3 := fun e => by rw [← e, hb5] at hb3; cases hb3
 have n3c : ¬ b3 = b5 := fun e => n3b e.symm
 by_cases g3 : o.code = 3 ∨ o.code = 5 ∨ o.code = 6
 ·obtain ⟨⟨q1, q2⟩, q3, q4⟩ := hR1 g3
  obtain ⟨bt, pre, cap, sp, rfl, e2, e3, e4⟩ := own_lie o2 (by omega)
  have f5 : ¬ bt = b3 := fun e => by rw [← e, e2] at hb3; cases hb3
  have q5 : o.a.toNat < to.length := by omega
  have q6 : o.b.toNat < to.length := by omega
  rcases g3 with g | g | g
  ·simp (disch := omega) only [push_cast, simprocAttr, wrap_i64, toNat_ofInt64, Nat.min_eq_left, Int.toNat_of_nonneg, upd_at, n3b, n3c, f5, hb5, e2, q1, q2, q3, q4, q5, q6, g]
   rw [show ren to o = ⟨o.code, to.getD o.a.toNat 0, to.getD o.b.toNat 0, o.imm, o.x, o.y⟩ from by unfold ren; rw [if_pos (by omega)], g] at fin ⊢
   exact fin _ rfl
  ·simp (disch := omega) only [push_cast, simprocAttr, wrap_i64, toNat_ofInt64, Nat.min_eq_left, Int.toNat_of_nonneg, upd_at, n3b, n3c, f5, hb5, e2, q1, q2, q3, q4, q5, q6, g]
   rw [show ren to o = ⟨o.code, to.getD o.a.toNat 0, to.getD o.b.toNat 0, o.imm, o.x, o.y⟩ from by unfold ren; rw [if_pos (by omega)], g] at fin ⊢
   exact fin _ rfl
  ·simp (disch := omega) only [push_cast, simprocAttr, wrap_i64, toNat_ofInt64, Nat.min_eq_left, Int.toNat_of_nonneg, upd_at, n3b, n3c, f5, hb5, e2, q1, q2, q3, q4, q5, q6, g]
   rw [show ren to o = ⟨o.code, to.getD o.a.toNat 0, to.getD o.b.toNat 0, o.imm, o.x, o.y⟩ from by unfold ren; rw [if_pos (by omega)], g] at fin ⊢
   exact fin _ rfl
 ·by_cases g4 : o.code = 4
  ·obtain ⟨q1, q2⟩ := hR2 g4
   obtain ⟨bt, pre, cap, sp, rfl, e2, e3, e4⟩ := own_lie o2 (by omega)
   have f5 : ¬ bt = b3 := fun e => by rw [← e, e2] at hb3; cases hb3
   have q5 : o.a.toNat < to.length := by omega
   simp (disch := omega) only [push_cast, simprocAttr, wrap_i64, toNat_ofInt64, Nat.min_eq_left, Int.toNat_of_nonneg, upd_at, n3b, n3c, f5, hb5, e2, q1, q2, q5, g4]
   rw [show ren to o = ⟨o.code, to.getD o.a.toNat 0, o.b, o.imm, o.x, o.y⟩ from by unfold ren; rw [if_neg g3, if_pos g4], g4] at fin ⊢
   exact fin _ rfl
  ·have g5 : ¬ o.code = 3 := by omega
   have g6 : ¬ o.code = 5 := by omega
   have g7 : ¬ o.code = 6 := by omega
   simp (disch := omega) only [push_cast, simprocAttr, wrap_i64, toNat_ofInt64, Nat.min_eq_left, Int.toNat_of_nonneg, upd_at, n3b, n3c, hb5, g4, g5, g6, g7]
   rw [show ren to o = o from by unfold ren; rw [if_neg g3, if_neg g4]] at fin ⊢
   exact fin _ rfl
end
end Go.Ab
end
section
namespace Go.Ab
open Go.Proofs
variable {G : Glo} {h : Heap}
section
variable {h1 : Heap} {b5 c3 br k : Nat} {p vo vx last : AV} {rest pre ws : List AV} {sp : Nat} {es : List IEx} {e : IEx} {to : List Int} {n5 n6 : Int} {Q : Exit → Env → Heap → Prop} {mss : List (List AV × Nat)}
theorem psx_loop (hb5 : h1 b5 = some ⟨.ptr c3 0 :: .ro (to.map (.int .i64)) to.length :: rest, 0⟩)
  (hbr : h1 br = some ⟨pre ++ rowOf es ws, sp⟩) (g4 : (pre ++ rowOf es ws)[pre.length + k * 5 + 4]? = some (ws.getD k .nils)) (hwl : k < ws.length) (hml : k < mss.length)
  (r : Rows 2 h1 ws (mss.set k (mp e)) h) (hok : ∀ v ∈ e.map, 0 ≤ v.val ∧ v.val < to.length) (hl : e.map.length ≤ 1000000000000)
  (hq : ∀ ρ h', lk ρ 5 = .ptr b5 0 → lk ρ 55 = .int .i64 n5 → lk ρ 56 = .int .i64 n6 → Rows 2 h1 ws (mss.set k (mp { e with map := e.map.map (renV to) })) h' → Q (.exit 4) ρ h') :
  lpc Tryz.prog G Tryz.f66.ntmps C66_44 Q [(5, .ptr b5 0), (9, .ptr br (pre.length + k * 5)), (55, .int .i64 n5), (56, .int .i64 n6), (90, .int .i64 (e.map.length : Int)), (91, .int .i64 0)] h := by
 refine lpc.rel [5, 9, 55, 56, 90, 91] (fun m ρ h' => ∃ i : Nat, m = e.map.length - i ∧ i ≤ e.map.length ∧ Rows 2 h1 ws (mss.set k (mp { e with map := renK to e.map i })) h' ∧
  ρ = [(5, .ptr b5 0), (9, .ptr br (pre.length + k * 5)), (55, .int .i64 n5), (56, .int .i64 n6), (90, .int .i64 (e.map.length : Int)), (91, .int .i64 (i : Int))]) ⟨_, 0, rfl, by omega, r, rfl⟩ ?_
 rintro m _ h2 ⟨i, rfl, hi, hr, rfl⟩
 have hbr' := hr.sub br _ hbr
 have hb5' := hr.sub b5 _ hb5
 by_cases hi2 : i < e.map.length
 ·have hren : (mp { e with map := renK to e.map i }).2 = e.map.length := renK_len _ _ _
  obtain ⟨bm, pm, cm, sm, f1, f2, f3, f4⟩ := hr.lie k (ws.getD k .nils) ((renK to e.map i).flatMap IVl.cells) (renK to e.map i).length (by simp [hwl]) (by simp [hml, mp]) (by rw [renK_len]; omega)
  have hgi := renK_get (to := to) hi2
  have hgs := renK_set (to := to) hi2
  have hok2 : 0 ≤ (e.map.getD i IVl.zero).val ∧ (e.map.getD i IVl.zero).val < to.length := hok _ (by rw [List.getD_eq_getElem?_getD, List.getElem?_eq_getElem hi2]; simp)
  have hvs := vls_set1 (renK to e.map i) i
  rw [renK_len, hgi] at hvs
  have hrl := renK_len to e.map i
  generalize e.map.getD i IVl.zero = v at hgi hgs hok2 hvs
  obtain ⟨q1, q2⟩ := hok2
  have q3 : v.val.toNat < to.length := by omega
  have hpm : (pm ++ (renK to e.map i).flatMap IVl.cells)[pm.length + i * 2 + 1]? = some (.int .i64 v.val) := by
   rw [Nat.add_assoc, List.getElem?_append_right (by omega), Nat.add_sub_cancel_left, vls_1, hrl, if_pos hi2, hgi]
  rw [f1] at g4
  have f4' := f4 (((renK to e.map i).flatMap IVl.cells).set (i * 2 + 1) (.int .i64 (to.getD v.val.toNat 0))) (by simp)
  have hset : (pm ++ (renK to e.map i).flatMap IVl.cells).set (pm.length + i * 2 + 1) (.int .i64 (to.getD v.val.toNat 0)) = pm ++ (((renK to e.map i).flatMap IVl.cells).set (i * 2 + 1) (.int .i64 (to.getD v.val.toNat 0))) := by
   rw [Nat.add_assoc, List.set_append_right _ _ (by omega), Nat.add_sub_cancel_left]
  have hlp : (pm ++ (renK to e.map i).flatMap IVl.cells).length = pm.length + e.map.length * 2 := by
   rw [List.length_append, flat_len IVl.cells 2 _ (fun x _ => IVl.len x), hrl]
  simp (disch := omega) only [push_cast, simprocAttr, wrap_i64, toNat_ofInt64, Nat.min_eq_left, Int.toNat_of_nonneg, hb5', hbr', g4, f2, hrl, hpm, q1, q2, q3, hset, hlp, hi2]
  refine ⟨by omega, _, _, by omega, .refl _, i + 1, rfl, by omega, ?_, rfl⟩
  have hvs' := hvs (to.getD v.val.toNat 0) hi2
  have hx : ({ v with val := to.getD v.val.toNat 0 } : IVl) = renV to v := rfl
  rw [hx, hgs] at hvs'
  rw [List.set_set, hvs'] at f4'
  rw [hvs']
  have hm : mp { e with map := renK to e.map (i + 1) } = ((renK to e.map (i + 1)).flatMap IVl.cells, (renK to e.map i).length) := by rw [mp, renK_len, renK_len]
  rw [hm]
  exact f4'
 ·obtain rfl : i = e.map.length := by omega
  simp only [push_cast, simprocAttr, hi2]
  refine hq _ _ rfl rfl rfl ?_
  have : renK to e.map e.map.length = e.map.map (renV to) := by simp [renK]
  rw [this] at hr
  exact hr
end
theorem psx_body {g : Heap} {b5 c3 br off n cap k : Nat} {p vo last : AV} {rest : List AV} {n5 : Int} {es : List IEx} {to : List Int} {Q : Exit → Env → Heap → Prop} (hb : g b5 = some ⟨.ptr c3 0 :: .ro (to.map (.int .i64)) to.length :: rest, 0⟩) (hb3 : g c3 = some ⟨[p, vo, .sl br off n cap, last], 0⟩)
  (hx : ExO g (.sl br off n cap) es h) (hn : n = es.length) (hk : k < es.length) (hok : exOK to (es.getD k IEx.zero)) (hl : (es.getD k IEx.zero).map.length ≤ 1000000000000)
  (hq : ∀ ρ h', lk ρ 5 = .ptr b5 0 → lk ρ 55 = .int .i64 n5 → lk ρ 56 = .int .i64 k → ExO g (.sl br off n cap) (es.set k (renE to (es.getD k IEx.zero))) h' → Q .normal ρ h') :
  wpc Tryz.prog G Tryz.f66.ntmps C66_51 Q [(5, .ptr b5 0), (55, .int .i64 n5), (56, .int .i64 k)] h := by
 subst hn
 obtain ⟨h1, ws, o, r⟩ := hx
 have hwl : ws.length = es.length := by have := r.len; simpa using this
 obtain ⟨br', pre, cap', sp, hv, e2, e3, e4⟩ := own_lie o (by omega)
 simp only [AV.sl.injEq] at hv
 obtain ⟨rfl, rfl, _, rfl⟩ := hv
 have hbr := r.sub br _ e2
 have hb5 := r.sub b5 _ (o.get hb)
 have hc3 := r.sub c3 _ (o.get hb3)
 have g2 : (pre ++ rowOf es ws)[pre.length + k * 5 + 2]? = some (.int .i64 (es.getD k IEx.zero).to) := by
  rw [Nat.add_assoc, List.getElem?_append_right (by omega), Nat.add_sub_cancel_left, rowOf_get _ _ _ _ hwl hk (by omega)]; rfl
 have g4 : (pre ++ rowOf es ws)[pre.length + k * 5 + 4]? = some (ws.getD k .nils) := by
  rw [Nat.add_assoc, List.getElem?_append_right (by omega), Nat.add_sub_cancel_left, rowOf_get _ _ _ _ hwl hk (by omega)]; rfl
 have hlr := rowOf_len es ws hwl
 have hll : (pre ++ rowOf es ws).length = pre.length + es.length * 5 := by rw [List.length_append, hlr]
 have hal : alen (ws.getD k .nils) = some (es.getD k IEx.zero).map.length := by
  exact r.alen k _ (mp (es.getD k IEx.zero)).1 _ (by simp [hwl, hk]) (by simp [hk, mp])
 generalize hE : es.getD k IEx.zero = e at *
 obtain ⟨ok1, ok2⟩ := hok
 by_cases ht : e.to = -1
 ·simp only [push_cast, simprocAttr, hb5, hc3, hbr, g2, g4, hal, ht, hk]
  refine psx_loop (o.get hb) e2 g4 (by omega) (by simp; omega) (mss := es.map mp) ?_ ok2 hl fun ρ h' e5 e55 e56 hr => ?_
  ·have : (es.map mp).set k (mp e) = es.map mp := by rw [← List.map_set, ← hE, set_self]
   rw [this]; exact r
  ·simp only [push_cast, simprocAttr, e5, e55, e56]
   refine hq _ _ e5 e55 e56 ?_
   have hre : renE to e = { e with map := e.map.map (renV to) } := by
    unfold renE; rw [if_pos ht]
    obtain ⟨e1, e2, e3, e4, e5⟩ := e
    simp only at ht
    subst ht
    rfl
   rw [hre]
   refine ⟨h1, ws, ?_, ?_⟩
   ·rw [rowOf_map, ← hE, set_self, List.length_set]; exact o
   ·rw [List.map_set]; exact hr
 ·have q : 0 ≤ e.to ∧ e.to < to.length := by omega
  have q2 : e.to.toNat < to.length := by omega
  have hset : ∀ x, (pre ++ rowOf es ws).set (pre.length + k * 5 + 2) (.int .i64 x) = pre ++ rowOf (es.set k { e with to := x }) ws := by
   intro x
   rw [Nat.add_assoc, List.set_append_right _ _ (by omega), Nat.add_sub_cancel_left, rowOf_set2 _ _ _ _ hwl hk, hE]
  have hwl' : ws.length = (es.set k { e with to := to.getD e.to.toNat 0 }).length := by simp [hwl]
  have g4' : (pre ++ rowOf (es.set k { e with to := to.getD e.to.toNat 0 }) ws)[pre.length + k * 5 + 4]? = some (ws.getD k .nils) := by
   rw [Nat.add_assoc, List.getElem?_append_right (by omega), Nat.add_sub_cancel_left, rowOf_get _ _ _ _ hwl' (by simpa using hk) (by omega)]; rfl
  simp (disch := omega) only [push_cast, simprocAttr, wrap_i64, toNat_ofInt64, Nat.min_eq_left, Int.toNat_of_nonneg, hb5, hc3, hbr, g2, g4, g4', hal, ht, q.1, q.2, q2, hset, hll, hk]
  refine ⟨by omega, ?_⟩
  have hne : ¬ b5 = br := fun e => by rw [← e, hb] at e3; cases e3
  refine psx_loop (h1 := Ab.upd h1 br ⟨pre ++ rowOf (es.set k { e with to := to.getD e.to.toNat 0 }) ws, sp⟩) (e := { e with to := to.getD e.to.toNat 0 }) (by rw [upd_ne hne]; exact o.get hb) (upd_same _ _ _) g4' (by omega) (by simp; omega) (mss := es.map mp) ?_ ok2 hl fun ρ h' e5 e55 e56 hr => ?_
  ·have : (es.map mp).set k (mp { e with to := to.getD e.to.toNat 0 }) = es.map mp := by
    show (es.map mp).set k (mp e) = es.map mp
    rw [← List.map_set, ← hE, set_self]
   rw [this]; exact r.upd (.inr ⟨_, e2⟩)
  ·simp only [push_cast, simprocAttr, e5, e55, e56]
   refine hq _ _ e5 e55 e56 ?_
   have hre : renE to e = { ({ e with to := to.getD e.to.toNat 0 } : IEx) with map := e.map.map (renV to) } := by
    unfold renE; rw [if_neg ht]
   rw [hre]
   refine ⟨Ab.upd h1 br ⟨pre ++ rowOf (es.set k { e with to := to.getD e.to.toNat 0 }) ws, sp⟩, ws, ?_, ?_⟩
   ·rw [rowOf_map _ _ _ { e with to := to.getD e.to.toNat 0 } (e.map.map (renV to)), List.length_set]
    exact e4 _ (by rw [rowOf_len _ _ hwl', hlr, List.length_set])
   ·rw [List.map_set]; exact hr
end Go.Ab
end
section
namespace Go.Ab
def turN (p : Int) : Bool := decide (p = 28 ∨ p = 36 ∨ p = 33 ∨ p = 37 ∨ p = 50 ∨ p = 51 ∨ p = 53)
def alikeN (a b : IOp) : Bool :=
 if a.code ≠ b.code then false
 else if a.code = 1 ∨ a.code = 2 then decide (a.imm = b.imm)
 else if a.code = 4 then decide (a.imm = b.imm) && decide (a.a = b.a)
 else if a.code = 3 then decide (plF a.imm.toNat = plF b.imm.toNat) && (decide (a.a = b.a) && decide (a.b = b.b) || turN (plF a.imm.toNat) && decide (a.a = b.b) && decide (a.b = b.a))
 else false
def findT (l : List IOp) (o : IOp) : Nat → Int
 | 0 => -1
 | k + 1 => if (l.getD k IOp.zero).code = 5 ∧ o.code = 4 then -1 else if findT l o k < 0 ∧ alikeN (l.getD k IOp.zero) o = true then (k : Int) else findT l o k
def findN (l : List IOp) (o : IOp) : Int := findT l o l.length
def numF : Rw := fun l o => (findN l o, o)
theorem findT_ok (l : List IOp) (o : IOp) : ∀ k, k ≤ l.length → 0 ≤ findT l o k → findT l o k < k ∧ alikeN (l.getD (findT l o k).toNat IOp.zero) o = true ∧ (o.code = 4 → ∀ i : Nat, (findT l o k).toNat < i → i < k → (l.getD i IOp.zero).code ≠ 5) := by
 intro k
 induction k with
 | zero => intro _ h; simp [findT] at h
 | succ k ih =>
  intro hk h
  rw [findT] at h ⊢
  by_cases c : (l.getD k IOp.zero).code = 5 ∧ o.code = 4
  ·rw [if_pos c] at h; omega
  ·rw [if_neg c] at h ⊢
   by_cases c2 : findT l o k < 0 ∧ alikeN (l.getD k IOp.zero) o = true
   ·rw [if_pos c2]
    refine ⟨by omega, by simpa using c2.2, fun _ i h1 h2 => by omega⟩
   ·rw [if_neg c2] at h ⊢
    obtain ⟨q1, q2, q3⟩ := ih (by omega) h
    refine ⟨by omega, q2, fun h4 i h1 h2 => ?_⟩
    by_cases e : i = k
    ·subst e; intro h5; exact c ⟨h5, h4⟩
    ·exact q3 h4 i h1 (by omega)
theorem alike_code {a b : IOp} (h : alikeN a b = true) : a.code = b.code ∧ 1 ≤ a.code ∧ a.code ≤ 4 := by
 unfold alikeN at h
 by_cases c : a.code ≠ b.code
 ·rw [if_pos c] at h; cases h
 ·rw [if_neg c] at h
  refine ⟨by omega, ?_⟩
  split at h
  ·omega
  ·split at h
   ·omega
   ·split at h
    ·omega
    ·cases h
theorem find_ok {l : List IOp} {o : IOp} (h : 0 ≤ findN l o) : findN l o < l.length ∧ alikeN (l.getD (findN l o).toNat IOp.zero) o = true ∧ (o.code = 4 → ∀ i : Nat, (findN l o).toNat < i → i < l.length → (l.getD i IOp.zero).code ≠ 5) :=
 findT_ok l o l.length (Nat.le_refl _) h
theorem num_ok : RwOk numF := by
 refine ⟨fun l o hl ho h0 hv => ?_, fun l o h0 => .inl rfl⟩
 obtain ⟨q1, q2, _⟩ := find_ok h0
 obtain ⟨e1, e2, e3⟩ := alike_code q2
 exact ⟨h0, q1, q1, ⟨e2, e3⟩⟩
end Go.Ab
end
section
namespace Go.Ab
open Go.Proofs
variable {G : Glo} {h : Heap}
theorem exo_le {b : IBk} {g h2 : Heap} {c : Nat} {vx : AV} (hs : Sub h g) (hc : h c = none) (hg : g c = some ⟨[.ro (wds b.pcs) b.pcs.length, ops b.ops, vx, .int .i64 b.last], 0⟩) (hx : ExO g vx b.exits h2) : Le (.ptr c 0) h2 (bkP b) h := by
 obtain ⟨g0, rfl, hg0, hs0⟩ : ∃ g0, g = Ab.upd g0 c ⟨[.ro (wds b.pcs) b.pcs.length, ops b.ops, vx, .int .i64 b.last], 0⟩ ∧ g0 c = none ∧ Sub h g0 := by
  refine ⟨fun d => if d = c then none else g d, ?_, if_pos rfl, fun d y hd => ?_⟩
  ·funext d
   rw [upd_at]
   by_cases e : d = c
   ·rw [if_pos e, e]; exact hg
   ·rw [if_neg e, if_neg e]
  ·have e : ¬ d = c := fun e => by rw [e, hc] at hd; cases hd
   show (if d = c then none else g d) = _
   rw [if_neg e]
   exact hs d y hd
 obtain ⟨h3, ws, o, r⟩ := hx
 have hwl : ws.length = b.exits.length := by have := r.len; simpa using this
 have key : ∀ H, Own 5 (Ab.upd g0 c ⟨[.ro (wds b.pcs) b.pcs.length, ops b.ops, vx, .int .i64 b.last], 0⟩) vx (b.exits.flatMap IEx.cells) b.exits.length H → Le (.ptr c 0) H (bkP b) h := by
  intro H oH
  refine le_trans (Le.cell oH (cs' := b.cells) rfl (fun i => ?_)) (le_trans (Le.box hg0) (le_sub hs0 (Le.refl _ _)))
  match i with
  | 0 => exact .inl rfl
  | 1 => exact .inl rfl
  | 2 => exact .inr ⟨rfl, rfl⟩
  | 3 => exact .inl rfl
  | i + 4 => exact .inl rfl
 by_cases h0 : b.exits.length = 0
 ·have he : b.exits = [] := List.eq_nil_of_length_eq_zero h0
  rw [he] at o r key
  have hws : ws = [] := List.eq_nil_of_length_eq_zero (by omega)
  obtain rfl := rows_nil r hws
  rw [hws] at o
  exact key _ o
 ·obtain ⟨br, pre, cap, sp, rfl, e2, e3, e4⟩ := own_lie o (by omega)
  have e5 := upd_self e2
  rw [← e5] at r
  refine le_trans (Rows.freeze r (cs' := pre ++ b.exits.flatMap IEx.cells) ?_ ?_) (key _ (e4 _ ?_))
  ·rw [List.length_append, List.length_append, rowOf_len _ _ hwl, flat_len IEx.cells 5 _ (fun x _ => IEx.len x)]
  ·intro i
   by_cases hi : i < pre.length
   ·left
    rw [List.getElem?_append_left hi, List.getElem?_append_left hi]
   ·rw [List.getElem?_append_right (by omega), List.getElem?_append_right (by omega)]
    generalize i - pre.length = q
    by_cases hq : q < b.exits.length * 5
    ·have hq2 : q = q / 5 * 5 + q % 5 := by omega
     have hk : q / 5 < b.exits.length := by omega
     have hj : q % 5 < 5 := by omega
     generalize q / 5 = k at hq2 hk
     generalize q % 5 = j at hq2 hj
     subst hq2
     rw [rowOf_get _ _ _ _ hwl hk hj, flat_getD IEx.cells 5 _ IEx.zero IEx.len _ _ hj, if_pos hk]
     match j, hj with
     | 0, _ => exact .inl rfl
     | 1, _ => exact .inl rfl
     | 2, _ => exact .inl rfl
     | 3, _ => exact .inl rfl
     | 4, _ => exact .inr ⟨k, ws.getD k .nils, (mp (b.exits.getD k IEx.zero)).1, (mp (b.exits.getD k IEx.zero)).2, by simp [hwl, hk], by simp [hk], rfl, rfl⟩
    ·left
     rw [List.getElem?_eq_none, List.getElem?_eq_none]
     ·rw [rowOf_len _ _ hwl]; omega
     ·rw [flat_len IEx.cells 5 _ (fun x _ => IEx.len x)]; omega
  ·rw [rowOf_len _ _ hwl, flat_len IEx.cells 5 _ (fun x _ => IEx.len x)]
theorem PsO.tell {g : Heap} {b5 c3 : Nat} {p vx last vt : AV} {l : List IOp} {to : List Int} {rest : List AV} (hr : PsO g b5 c3 p vx last l vt to rest h) : h b5 = some ⟨.ptr c3 0 :: vt :: rest, 0⟩ ∧ ∃ h1, Own 1 h1 vt (to.map (.int .i64)) to.length h ∧
  ∀ v to' rest' h7, Own 1 h1 v (to'.map (.int .i64)) to'.length h7 → h7 b5 = some ⟨.ptr c3 0 :: vt :: rest, 0⟩ ∧ PsO g b5 c3 p vx last l v to' rest' (Ab.upd h7 b5 ⟨.ptr c3 0 :: v :: rest', 0⟩) := by
 obtain ⟨hn, vo, h1, o1, o2⟩ := hr
 have hb := o1.get (upd_same _ _ _)
 refine ⟨o2.get hb, h1, o2, fun v to' rest' h7 o7 => ⟨o7.get hb, hn, vo, ?_⟩⟩
 have y2 := Own.upd o7 (b := b5) (x := ⟨.ptr c3 0 :: v :: rest', 0⟩) (.inr ⟨_, hb⟩)
 have y1 := Own.upd o1 (b := b5) (x := ⟨.ptr c3 0 :: v :: rest', 0⟩) (.inr ⟨_, upd_same _ _ _⟩)
 rw [upd_upd] at y1
 exact ⟨_, y1, y2⟩
theorem PsO.data {u : AV} {g : Heap} {b5 c3 : Nat} {p vx last vt : AV} {l : List IOp} {to : List Int} {rest : List AV} (hr : PsO g b5 c3 p vx last l vt to rest h) : Le u h u (Ab.upd (Ab.upd g c3 ⟨[p, ops l, vx, last], 0⟩) b5 ⟨.ptr c3 0 :: .ro (to.map (.int .i64)) to.length :: rest, 0⟩) := by
 obtain ⟨hn, vo, h1, o1, o2⟩ := hr
 have e1 := upd_self (o1.get (upd_same _ _ _))
 rw [← e1] at o2
 have o1' := Own.upd o1 (b := b5) (x := ⟨.ptr c3 0 :: .ro (to.map (.int .i64)) to.length :: rest, 0⟩) (.inr ⟨_, upd_same _ _ _⟩)
 rw [upd_upd, upd_comm (h := g) (Ne.symm hn)] at o1'
 refine le_trans (Le.cell o2 (cs' := .ptr c3 0 :: .ro (to.map (.int .i64)) to.length :: rest) rfl (fun i => ?_)) ?_
 ·match i with
  | 0 => exact .inl rfl
  | 1 => exact .inr ⟨rfl, rfl⟩
  | i + 2 => exact .inl rfl
 rw [upd_comm (h := g) (Ne.symm hn)]
 refine Le.cell o1' (cs' := [p, ops l, vx, last]) rfl (fun i => ?_)
 match i with
 | 0 => exact .inl rfl
 | 1 => exact .inr ⟨rfl, rfl⟩
 | 2 => exact .inl rfl
 | 3 => exact .inl rfl
 | i + 4 => exact .inl rfl
theorem ps_hk {f : Rw} (hf : RwOk f) {b : IBk} (hc : b.check = 0) {k : Nat} (hk : k < b.ops.length) (h3 : (b.ops.getD k IOp.zero).code = 3) :
  reckonsN (b.ops.getD k IOp.zero).imm.toNat = true ∧ (0 ≤ (ren (psN f (b.ops.take k)).to (b.ops.getD k IOp.zero)).a ∧ (ren (psN f (b.ops.take k)).to (b.ops.getD k IOp.zero)).a < (psN f (b.ops.take k)).l.length) ∧
   0 ≤ (ren (psN f (b.ops.take k)).to (b.ops.getD k IOp.zero)).b ∧ (ren (psN f (b.ops.take k)).to (b.ops.getD k IOp.zero)).b < (psN f (b.ops.take k)).l.length := by
 have hkN := kind_of ((right_parts hc).1 k hk)
 have hi := ps_inv hf hc k (by omega)
 have hg := psren_good hi (good_of ((right_parts hc).1 k hk))
 obtain ⟨⟨a1, a2, a3, _⟩, b1, b2, b3, _⟩ := hg.1 (by rw [ren_code]; exact .inl h3)
 refine ⟨?_, ⟨a1, a3⟩, b1, b3⟩
 unfold kindN at hkN
 simp_all
theorem psstep_eq (f : Rw) (s : Ps) (o : IOp) : s.step f o = ⟨if 0 ≤ (f s.l (ren s.to o)).1 then s.l else s.l ++ [(f s.l (ren s.to o)).2], s.to ++ [if 0 ≤ (f s.l (ren s.to o)).1 then (f s.l (ren s.to o)).1 else (s.l.length : Int)]⟩ := by
 unfold Ps.step
 split <;> rfl
end Go.Ab
end
section
namespace Go.Ab
open Go.Proofs
variable {G : Glo} {h : Heap}
theorem foldDo_spec (b : IBk) (hw : b.wf) (hc : b.check = 0) : Spec Tryz.prog G 66 [bkP b] h (Is (.tup [bkP (b.ps foldF), .int .i64 0]) h) := by
 obtain ⟨hops, hexs⟩ := right_parts hc
 obtain ⟨hs1, hs2, hs3⟩ := hw.hs
 refine Spec.weak (Q := fun r h' => ∃ c3 g vx, r = .tup [.ptr c3 0, .int .i64 0] ∧ h c3 = none ∧ Sub h g ∧ g c3 = some ⟨[.ro (wds b.pcs) b.pcs.length, ops (b.ps foldF).ops, vx, .int .i64 b.last], 0⟩ ∧ ExO g vx (b.ps foldF).exits h') ?_ ?_
 ·refine Spec.walk C66ok rfl ?_
  simp only [push_cast, simprocAttr]
  refine (Check_spec b hw).to ?_
  rw [hc]
  simp only [push_cast, simprocAttr]
  refine (Clone_spec b hw).mono ?_
  rintro _ h1 ⟨c3, g, vx, rfl, hn3, hs, hc3, hx⟩
  have hc3' := hx.sub c3 _ hc3
  simp only [push_cast, simprocAttr, hc3']
  intro b5 hb5
  have n53 : b5 ≠ c3 := fun e => by rw [e, hc3'] at hb5; cases hb5
  have n35 : ¬ c3 = b5 := fun e => n53 e.symm
  simp only [push_cast, simprocAttr, hc3', upd_at, n53, n35]
  refine lpc.rel [5, 29, 30, 31] (fun m ρ h' => ∃ (k : Nat) (vt : AV) (g gg : Heap), m = b.ops.length - k ∧ k ≤ b.ops.length ∧ Sub h g ∧ ExO g vx b.exits gg ∧ gg b5 = none ∧ g c3 = some ⟨[.ro (wds b.pcs) b.pcs.length, ops b.ops, vx, .int .i64 b.last], 0⟩ ∧ PsO gg b5 c3 (.ro (wds b.pcs) b.pcs.length) vx (.int .i64 b.last) (psN foldF (b.ops.take k)).l vt (psN foldF (b.ops.take k)).to [] h' ∧
   ρ = [(5, .ptr b5 0), (29, ops b.ops), (30, .int .i64 (b.ops.length : Int)), (31, .int .i64 (k : Int))]) ⟨_, 0, .nils, g, h1, rfl, by omega, hs, hx, hb5, hc3, ⟨n53, .nils, _, .nil, ?_⟩, rfl⟩ ?_
  ·rw [upd_comm n53]
   exact .nil
  rintro m _ h2 ⟨k, vt, g, gg, rfl, hk, hs, hx, hb5, hc3, hr, rfl⟩
  simp only [push_cast, simprocAttr]
  refine ⟨fun hk2 => ⟨hk2, hk2, fun c hc1 => ?_⟩, fun hk2 => ?_⟩
  ·rw [era_none hc1]
   have hst := psstep_eq foldF (psN foldF (b.ops.take k)) (b.ops.getD k IOp.zero)
   rw [← psN_succ foldF b.ops k hk2] at hst
   have htl : (psN foldF (b.ops.take k)).to.length = k := by rw [psN_to, List.length_take]; omega
   have hll := psN_l foldF (b.ops.take k)
   rw [List.length_take] at hll
   have hok := renOK_of (hops k hk2) htl
   have HK := fun e3 => ps_hk fold_ok hc hk2 e3
   generalize psN foldF (b.ops.take k) = f at *
   obtain ⟨hbb, _⟩ := hr.tell
   simp only [push_cast, simprocAttr, hbb]
   refine (fopf_spec hr (by omega) (b.ops.getD k IOp.zero) hok HK).mono ?_
   rintro _ h6 ⟨c', x, hcg, hcb, hcc, rfl, hr6⟩
   obtain ⟨hb6, j1, o6, tell⟩ := hr6.tell
   simp only [push_cast, simprocAttr, hb6]
   refine Own.app o6 (m := 1) rfl (by omega) (by omega) fun v3 h7 o7 => ?_
   have tell3 := fun to' rest' o => tell v3 to' rest' h7 o
   obtain ⟨hb7, hr7⟩ := tell3 (f.to ++ [if 0 ≤ (foldF f.l (ren f.to (b.ops.getD k IOp.zero))).1 then (foldF f.l (ren f.to (b.ops.getD k IOp.zero))).1 else (f.l.length : Int)]) [] (by simpa using o7)
   simp (disch := omega) only [push_cast, simprocAttr, wrap_i64, toNat_ofInt64, Nat.min_eq_left, Int.toNat_of_nonneg, hb7, o7.one]
   refine ⟨_, _, by omega, .refl _, k + 1, v3, Ab.upd g c' x, Ab.upd gg c' x, rfl, by omega, sub_upd (hs.none (hx.sub.none hcg)) hs, hx.upd (.inl hcg), by rw [upd_ne (Ne.symm hcb)]; exact hb5, by rw [upd_ne (Ne.symm hcc)]; exact hc3, ?_, rfl⟩
   rw [hst]
   exact hr7
  ·obtain rfl : k = b.ops.length := by omega
   rw [List.take_length] at hr
   have htl := psN_to foldF b.ops
   have hps : (b.ps foldF).ops = (psN foldF b.ops).l := rfl
   have hpe : (b.ps foldF).exits = b.exits.map (renE (psN foldF b.ops).to) := rfl
   rw [hps, hpe]
   generalize psN foldF b.ops = f at *
   refine ⟨_, _, hr.data, ?_⟩
   have hx1 := hx.upd (b := c3) (x := ⟨[.ro (wds b.pcs) b.pcs.length, ops f.l, vx, .int .i64 b.last], 0⟩) (.inr ⟨_, hc3⟩)
   have hx2 := hx1.upd (b := b5) (x := ⟨[.ptr c3 0, .ro (f.to.map (.int .i64)) f.to.length], 0⟩) (.inl (by rw [upd_ne n53]; exact hb5))
   have hG5 := upd_same (Ab.upd g c3 ⟨[.ro (wds b.pcs) b.pcs.length, ops f.l, vx, .int .i64 b.last], 0⟩) b5 ⟨[.ptr c3 0, .ro (f.to.map (.int .i64)) f.to.length], 0⟩
   have hG3 : Ab.upd (Ab.upd g c3 ⟨[.ro (wds b.pcs) b.pcs.length, ops f.l, vx, .int .i64 b.last], 0⟩) b5 ⟨[.ptr c3 0, .ro (f.to.map (.int .i64)) f.to.length], 0⟩ c3 = some ⟨[.ro (wds b.pcs) b.pcs.length, ops f.l, vx, .int .i64 b.last], 0⟩ := by rw [upd_ne (Ne.symm n53)]; exact upd_same _ _ _
   have hsG : Sub h (Ab.upd (Ab.upd g c3 ⟨[.ro (wds b.pcs) b.pcs.length, ops f.l, vx, .int .i64 b.last], 0⟩) b5 ⟨[.ptr c3 0, .ro (f.to.map (.int .i64)) f.to.length], 0⟩) := sub_upd (hs.none (hx.sub.none hb5)) (sub_upd hn3 hs)
   generalize Ab.upd (Ab.upd g c3 _) b5 _ = G1 at hx2 hG5 hG3 hsG
   generalize Ab.upd (Ab.upd gg c3 _) b5 _ = H1 at hx2 ⊢
   have hH5 := hx2.sub b5 _ hG5
   have hH3 := hx2.sub c3 _ hG3
   have hal : alen vx = some b.exits.length := by
    obtain ⟨_, _, o, _⟩ := hx2
    exact o.alen
   simp only [push_cast, simprocAttr, hH5, hH3, hal]
   refine lpc.rel [5, 55, 56] (fun m ρ h' => ∃ k : Nat, m = b.exits.length - k ∧ k ≤ b.exits.length ∧ ExO G1 vx (mapK (renE f.to) b.exits k) h' ∧
    ρ = [(5, .ptr b5 0), (55, .int .i64 (b.exits.length : Int)), (56, .int .i64 (k : Int))]) ⟨_, 0, rfl, by omega, hx2, rfl⟩ ?_
   rintro m _ h3 ⟨k, rfl, hk, hx3, rfl⟩
   have hJ5 := hx3.sub b5 _ hG5
   have hJ3 := hx3.sub c3 _ hG3
   by_cases hk2 : k < b.exits.length
   ·have hlk := mapK_len (renE f.to) b.exits k
    have hx4 := hx3
    obtain ⟨h4, ws, o, r⟩ := hx4
    obtain ⟨br, pre, cap, sp, hv, e2, e3, e4⟩ := own_lie o (by omega)
    rw [hlk] at hv
    subst hv
    have hgk := mapK_get (f := renE f.to) IEx.zero hk2
    have hml := getD_map (n := k) hs3
    have hB := fun Q => psx_body (Q := Q) (G := G) (n5 := b.exits.length) (k := k) hG5 hG3 hx3 (by omega) (by omega) (by rw [hgk]; exact exOK_of (hexs k hk2) htl) (by rw [hgk]; exact hml)
    show wpc _ _ _ (.seq [5, 55, 56, 57] C66_26 (.seq [5, 55, 56] C66_27 (.seq [5, 55, 56] C66_51 C66_52))) _ _ _
    generalize C66_51 = Y at hB ⊢
    simp only [push_cast, simprocAttr, hk2]
    refine hB _ fun ρ h5 e5 e55 e56 hx5 => ?_
    rw [hgk, mapK_set _ hk2] at hx5
    simp (disch := omega) only [push_cast, simprocAttr, wrap_i64, toNat_ofInt64, Nat.min_eq_left, Int.toNat_of_nonneg, e5, e55, e56]
    exact ⟨_, _, by omega, .refl _, k + 1, rfl, by omega, hx5, rfl⟩
   ·obtain rfl : k = b.exits.length := by omega
    have hme : mapK (renE f.to) b.exits b.exits.length = b.exits.map (renE f.to) := by simp [mapK]
    rw [hme] at hx3
    simp only [push_cast, simprocAttr, hJ5, hJ3, hk2]
    exact ⟨c3, G1, vx, rfl, hn3, hsG, hG3, hx3⟩
 ·rintro _ _ ⟨c3, g, vx, rfl, hn3, hs, hc3, hx⟩
  exact ⟨_, _, ⟨rfl, rfl⟩, le_tup1 (exo_le hs hn3 hc3 hx)⟩
end Go.Ab
end
section
namespace Go.Ab
def lastT (l : List IOp) : Nat → Int
 | 0 => -1
 | k + 1 => if (l.getD k IOp.zero).code = 5 then (k : Int) else lastT l k
def lastS (l : List IOp) : Int := lastT l l.length
def fwF : Rw := fun l o => (knownN l (lastS l) o, o)
theorem lastT_app (l : List IOp) (o : IOp) : ∀ k, k ≤ l.length → lastT (l ++ [o]) k = lastT l k := by
 intro k
 induction k with
 | zero => intro _; rfl
 | succ k ih =>
  intro hk
  rw [lastT, lastT, getD_lt (by omega), ih (by omega)]
theorem lastS_app (l : List IOp) (o : IOp) : lastS (l ++ [o]) = if o.code = 5 then (l.length : Int) else lastS l := by
 rw [lastS, List.length_append, List.length_cons, List.length_nil, lastT, getD_eq rfl, lastT_app _ _ _ (Nat.le_refl _)]
 rfl
theorem lastT_ok (l : List IOp) : ∀ k, k ≤ l.length → 0 ≤ lastT l k → lastT l k < k ∧ (l.getD (lastT l k).toNat IOp.zero).code = 5 := by
 intro k
 induction k with
 | zero => intro _ h; simp [lastT] at h
 | succ k ih =>
  intro hk h
  rw [lastT] at h ⊢
  split at h
  ·rename_i c
   rw [if_pos c]
   exact ⟨by omega, by simpa using c⟩
  ·rename_i c
   rw [if_neg c]
   obtain ⟨q1, q2⟩ := ih (by omega) h
   exact ⟨by omega, q2⟩
theorem lastS_ok {l : List IOp} (h : 0 ≤ lastS l) : lastS l < l.length ∧ (l.getD (lastS l).toNat IOp.zero).code = 5 := lastT_ok l _ (Nat.le_refl _) h
theorem fw_ps_step (f : Fw) (h : f.stored = lastS f.l) (o : IOp) : (f.step o).l = ((⟨f.l, f.to⟩ : Ps).step fwF o).l ∧ (f.step o).to = ((⟨f.l, f.to⟩ : Ps).step fwF o).to ∧ (f.step o).stored = lastS (f.step o).l := by
 unfold Fw.step Ps.step fwF
 simp only [h]
 split
 ·exact ⟨rfl, rfl, rfl⟩
 ·refine ⟨rfl, rfl, ?_⟩
  simp only
  rw [lastS_app]
theorem fw_ps_fold (r : List IOp) : ∀ (f : Fw) (s : Ps), f.stored = lastS f.l → s = ⟨f.l, f.to⟩ → (r.foldl Fw.step f).l = (r.foldl (Ps.step fwF) s).l ∧ (r.foldl Fw.step f).to = (r.foldl (Ps.step fwF) s).to := by
 induction r with
 | nil => intro f s _ hs; subst hs; exact ⟨rfl, rfl⟩
 | cons o r ih =>
  intro f s h hs
  subst hs
  obtain ⟨e1, e2, e3⟩ := fw_ps_step f h o
  rw [List.foldl_cons, List.foldl_cons]
  refine ih _ _ e3 ?_
  have : ∀ p : Ps, p = ⟨p.l, p.to⟩ := fun _ => rfl
  rw [this (Ps.step _ _ _), e1, e2]
theorem fw_eq (b : IBk) : b.fw = b.ps fwF := by
 obtain ⟨e1, e2⟩ := fw_ps_fold b.ops Fw.init ⟨[], []⟩ rfl rfl
 unfold IBk.fw IBk.ps
 have h1 : (fwd b.ops).l = (psN fwF b.ops).l := e1
 have h2 : (fwd b.ops).to = (psN fwF b.ops).to := e2
 rw [h1, h2]
theorem known_parts {l : List IOp} {st : Int} {o : IOp} (h : 0 ≤ knownN l st o) : o.code = 4 ∧ o.imm.toNat = 13 ∧ 0 ≤ st ∧ (l.getD st.toNat IOp.zero).imm.toNat = 18 ∧ (l.getD st.toNat IOp.zero).a = o.a ∧ knownN l st o = (l.getD st.toNat IOp.zero).b := by
 unfold knownN at h ⊢
 by_cases h1 : o.code ≠ 4 ∨ o.imm.toNat ≠ 13 ∨ st < 0
 ·rw [if_pos h1] at h; omega
 ·rw [if_neg h1] at h ⊢
  simp only at h ⊢
  split at h
  ·omega
  ·rename_i h2
   rw [if_neg h2]
   refine ⟨by omega, by omega, by omega, by omega, ?_, rfl⟩
   by_cases e : (l.getD st.toNat IOp.zero).a = o.a
   ·exact e
   ·exact absurd (.inr e) h2
theorem fwF_ok : RwOk fwF := by
 refine ⟨fun l o hl ho h0 hv => ?_, fun l o h0 => .inl rfl⟩
 obtain ⟨c4, c13, c0, c18, ca, e⟩ := known_parts h0
 show vin l l.length (knownN l (lastS l) o)
 rw [e]
 obtain ⟨q1, q2⟩ := lastS_ok c0
 obtain ⟨k1, k2, k3, k4⟩ := ((hl (lastS l).toNat (by omega)).1 (.inr (.inl q2))).2
 exact ⟨k1, by omega, k3, k4⟩
end Go.Ab
end
section
namespace Go.Ab
open Go.Proofs
variable {G : Glo} {h : Heap}
theorem lastT_none (l : List IOp) : ∀ n, ∀ j : Nat, j < n → lastT l n < j → (l.getD j IOp.zero).code ≠ 5 := by
 intro n
 induction n with
 | zero => intro j h; omega
 | succ n ih =>
  intro j hj hl
  rw [lastT] at hl
  split at hl
  ·omega
  ·rename_i c
   by_cases e : j = n
   ·rw [e]; exact c
   ·exact ih j (by omega) hl
theorem lastS_lo (l : List IOp) : -1 ≤ lastS l := by
 unfold lastS
 generalize l.length = n
 induction n with
 | zero => simp [lastT]
 | succ n ih => rw [lastT]; split <;> omega
theorem findT_from {l : List IOp} {o : IOp} {fr : Nat} (h2 : fr = 0 ∨ o.code = 4 ∧ (l.getD (fr - 1) IOp.zero).code = 5) : ∀ n, fr ≤ n → (o.code = 4 → ∀ j : Nat, fr ≤ j → j < n → (l.getD j IOp.zero).code ≠ 5) →
  ((∀ j : Nat, fr ≤ j → j < n → alikeN (l.getD j IOp.zero) o = false) → findT l o n = -1) ∧ ∀ i : Nat, fr ≤ i → i < n → alikeN (l.getD i IOp.zero) o = true → (∀ j : Nat, fr ≤ j → j < i → alikeN (l.getD j IOp.zero) o = false) → findT l o n = i := by
 intro n
 induction n with
 | zero =>
  intro hf _
  exact ⟨fun _ => rfl, fun i _ h => by omega⟩
 | succ n ih =>
  intro hf hs
  by_cases e : fr = n + 1
  ·subst e
   have c : (l.getD n IOp.zero).code = 5 ∧ o.code = 4 := by
    rcases h2 with h | ⟨h, h'⟩
    ·omega
    ·exact ⟨h', h⟩
   rw [findT, if_pos c]
   exact ⟨fun _ => rfl, fun i _ h => by omega⟩
  ·obtain ⟨i1, i2⟩ := ih (by omega) (fun h4 j a b => hs h4 j a (by omega))
   have c : ¬ ((l.getD n IOp.zero).code = 5 ∧ o.code = 4) := fun c => hs c.2 n (by omega) (by omega) c.1
   rw [findT, if_neg c]
   refine ⟨fun ha => ?_, fun i hi1 hi2 hi3 hi4 => ?_⟩
   ·rw [i1 (fun j a b => ha j a (by omega)), if_neg]
    rw [ha n (by omega) (by omega)]; simp
   ·by_cases e2 : i = n
    ·subst e2
     rw [i1 hi4, if_pos ⟨by omega, hi3⟩]
    ·rw [i2 i hi1 (by omega) hi3 hi4, if_neg (by omega)]
def fromN (l : List IOp) (o : IOp) : Int := if o.code = 4 then 1 + lastS l else 0
theorem find_from (l : List IOp) (o : IOp) : 0 ≤ fromN l o ∧ fromN l o ≤ l.length ∧ ((∀ j : Nat, fromN l o ≤ j → j < l.length → alikeN (l.getD j IOp.zero) o = false) → findN l o = -1) ∧
  ∀ i : Nat, fromN l o ≤ i → i < l.length → alikeN (l.getD i IOp.zero) o = true → (∀ j : Nat, fromN l o ≤ j → j < i → alikeN (l.getD j IOp.zero) o = false) → findN l o = i := by
 have h0 := lastS_lo l
 have h1 : lastS l < l.length := by
  by_cases c : 0 ≤ lastS l
  ·exact (lastS_ok c).1
  ·omega
 have hf : 0 ≤ fromN l o ∧ fromN l o ≤ l.length := by unfold fromN; split <;> omega
 obtain ⟨i1, i2⟩ := findT_from (l := l) (o := o) (fr := (fromN l o).toNat) (by
  unfold fromN
  by_cases c : o.code = 4
  ·rw [if_pos c]
   by_cases c0 : 0 ≤ lastS l
   ·right
    refine ⟨c, ?_⟩
    have := (lastS_ok c0).2
    rw [show (1 + lastS l).toNat - 1 = (lastS l).toNat by omega]
    exact this
   ·left; omega
  ·rw [if_neg c]; left; rfl) l.length (by omega) (fun c j hj hj2 => by
  unfold fromN at hj
  rw [if_pos c] at hj
  exact lastT_none l l.length j hj2 (show lastS l < j by omega))
 refine ⟨hf.1, hf.2, fun h => i1 fun j a b => h j (by omega) b, fun i a b c d => i2 i (by omega) b c fun j a b => d j (by omega) b⟩
theorem nturns_spec (p : Int) : Spec Tryz.prog G 166 [.int .i64 p] h (Is (.bool (turN p)) h) := by
 unfold turN
 refine Spec.is C166ok rfl ?_
 by_cases c : p = 28 ∨ p = 36 ∨ p = 33 ∨ p = 37 ∨ p = 50 ∨ p = 51 ∨ p = 53
 ·rcases c with rfl | rfl | rfl | rfl | rfl | rfl | rfl <;>
  ·simp only [push_cast, simprocAttr]
   try simp
 ·have d1 : ¬ p = 28 := by omega
  have d2 : ¬ p = 36 := by omega
  have d3 : ¬ p = 33 := by omega
  have d4 : ¬ p = 37 := by omega
  have d5 : ¬ p = 50 := by omega
  have d6 : ¬ p = 51 := by omega
  have d7 : ¬ p = 53 := by omega
  simp only [push_cast, simprocAttr, d1, d2, d3, d4, d5, d6, d7]
  try simp
theorem nplain_spec (w : BitVec 32) : Spec Tryz.prog G 165 [.int .u32 w.toNat] h (Is (.int .i64 (plF w.toNat)) h) := by
 have hP := Plain_spec (G := G) (h := h) (w.toNat : Int)
 have hw : IntKind.i64.wrap (w.toNat : Int) = w.toNat := wrap_i64 (by omega) (by omega)
 unfold plF
 generalize plainN (w.toNat : Int) = q at *
 refine Spec.is C165ok rfl ?_
 simp only [push_cast, simprocAttr, hw]
 refine hP.to ?_
 by_cases c : q = 0
 ·simp only [push_cast, simprocAttr, c, hw]
 ·simp only [push_cast, simprocAttr, c, hw]
theorem alike_spec (a b : IOp) : Spec Tryz.prog G 153 [.agg a.cells, .agg b.cells] h (Is (.bool (alikeN a b)) h) := by
  have kA := nplain_spec (G := G) (h := h) a.imm
  have kB := nplain_spec (G := G) (h := h) b.imm
  have kT := nturns_spec (G := G) (h := h) (plF (a.imm.toNat : Int))
  have hI : ((a.imm.toNat : Int) == (b.imm.toNat : Int)) = decide (a.imm = b.imm) := by
    rw [Bool.eq_iff_iff, beq_iff_eq, decide_eq_true_eq]
    exact ⟨fun e => BitVec.eq_of_toNat_eq (by omega), fun e => by rw [e]⟩
  unfold alikeN
  by_cases c0 : a.code = b.code
  · rw [if_neg (by simpa using c0)]
    by_cases c12 : a.code = 1 ∨ a.code = 2
    · rw [if_pos c12]
      refine Spec.is C153ok rfl ?_
      rcases c12 with c | c
      · have c' : b.code = 1 := by omega
        simp only [push_cast, simprocAttr, c, c', hI]
      · have c' : b.code = 2 := by omega
        simp only [push_cast, simprocAttr, c, c', hI]
    · rw [if_neg c12]
      have c1 : ¬ b.code = 1 := by omega
      have c2 : ¬ b.code = 2 := by omega
      by_cases c4 : a.code = 4
      · rw [if_pos c4]
        have c4' : b.code = 4 := by omega
        refine Spec.is C153ok rfl ?_
        by_cases e : a.imm = b.imm
        · simp only [push_cast, simprocAttr, c0, c1, c2, c4, c4', hI, e, decide_true, Bool.true_and]
          rfl
        · have e' : decide (a.imm = b.imm) = false := decide_eq_false e
          simp only [push_cast, simprocAttr, c0, c1, c2, c4, c4', hI, e']
          try simp
      · rw [if_neg c4]
        have c4' : ¬ b.code = 4 := by omega
        by_cases c3 : a.code = 3
        · rw [if_pos c3]
          have c3' : b.code = 3 := by omega
          generalize plF (a.imm.toNat : Int) = pa at *
          generalize plF (b.imm.toNat : Int) = pb at *
          generalize turN pa = tu at *
          refine Spec.is C153ok rfl ?_
          simp only [push_cast, simprocAttr, c0, c1, c2, c3, c3', c4, c4']
          refine kA.to ?_
          have e1 : (a.a == b.a) = decide (a.a = b.a) := rfl
          have e2 : (a.b == b.b) = decide (a.b = b.b) := rfl
          have e3 : (a.a == b.b) = decide (a.a = b.b) := rfl
          have e4 : (a.b == b.a) = decide (a.b = b.a) := rfl
          have e5 : (pa == pb) = decide (pa = pb) := rfl
          generalize decide (a.a = b.a) = x1 at *
          generalize decide (a.b = b.b) = x2 at *
          generalize decide (a.a = b.b) = x3 at *
          generalize decide (a.b = b.a) = x4 at *
          generalize decide (pa = pb) = x5 at *
          cases x1 <;> cases x2 <;>
          · simp only [push_cast, simprocAttr, e1, e2]
            refine kB.to ?_
            cases x5 with
            | false => simp only [push_cast, simprocAttr, e5]; try rfl
            | true =>
              simp only [push_cast, simprocAttr, e5]
              try first
                | rfl
                | (refine kT.to ?_
                   cases tu with
                   | false => simp only [push_cast, simprocAttr]; try rfl
                   | true => cases x3 with
                     | false => simp only [push_cast, simprocAttr, e3]; try rfl
                     | true => simp only [push_cast, simprocAttr, e3, e4]; try rfl)
        · rw [if_neg c3]
          have c3' : ¬ b.code = 3 := by omega
          refine Spec.is C153ok rfl ?_
          simp only [push_cast, simprocAttr, c0, c1, c2, c3', c4']
  · rw [if_pos (by simpa using c0)]
    refine Spec.is C153ok rfl ?_
    simp only [push_cast, simprocAttr, c0]
end Go.Ab
end
section
namespace Go.Ab
open Go.Proofs
variable {G : Glo} {h : Heap}
theorem nfind_spec (l : List IOp) (to : List Int) (o : IOp) (hl : l.length ≤ 1000000000000) : Spec Tryz.prog G 134 [psV l to [.int .i64 (1 + lastS l)], .agg o.cells] h (Is (.int .i64 (findN l o)) h) := by
 obtain ⟨f1, f2, f3, f4⟩ := find_from l o
 have hfr : fromN l o = if o.code = 4 then 1 + lastS l else 0 := rfl
 refine Spec.is C134ok rfl ?_
 have fin : ∀ H, H = h → wpc Tryz.prog G Tryz.f134.ntmps C134_27 (scQ (retQ C134r (IsS (.int .i64 (findN l o)) h))) [(0, psV l to [.int .i64 (1 + lastS l)]), (3, .cp o.cells 0), (5, .int .i64 (fromN l o)), (6, .int .i64 (-1))] H := by
  rintro H rfl
  simp only [push_cast, simprocAttr]
  refine lpc.rel [0, 3, 5, 6, 22, 23] (fun m ρ h' => ∃ i : Nat, m = l.length - i ∧ i ≤ l.length ∧ (∀ j : Nat, fromN l o ≤ j → j < i → alikeN (l.getD j IOp.zero) o = false) ∧ h' = H ∧
   ρ = [(0, psV l to [AV.int IntKind.i64 (1 + lastS l)]), (3, AV.cp o.cells 0), (5, AV.int IntKind.i64 (fromN l o)), (6, AV.int IntKind.i64 (-1)), (22, AV.int IntKind.i64 ↑l.length), (23, AV.int IntKind.i64 (i : Int))]) ⟨_, 0, rfl, by omega, fun j _ h => by omega, rfl, rfl⟩ ?_
  rintro m _ H' ⟨i, rfl, hi, hno, hH, rfl⟩
  subst hH
  by_cases hi2 : i < l.length
  ·by_cases ci : (i : Int) < fromN l o
   ·simp (disch := omega) only [push_cast, simprocAttr, wrap_i64, toNat_ofInt64, Nat.min_eq_left, Int.toNat_of_nonneg, hi2, ci]
    exact ⟨_, _, by omega, .refl _, i + 1, rfl, by omega, fun j a b => by omega, rfl, rfl⟩
   ·have kA := alike_spec (G := G) (h := H') (l.getD i IOp.zero) o
    simp only [push_cast, simprocAttr, hi2, ci]
    refine kA.to ?_
    cases hv : alikeN (l.getD i IOp.zero) o with
    | false =>
     simp (disch := omega) only [push_cast, simprocAttr, wrap_i64, toNat_ofInt64, Nat.min_eq_left, Int.toNat_of_nonneg]
     refine ⟨_, _, by omega, .refl _, i + 1, rfl, by omega, fun j a b => ?_, rfl, rfl⟩
     by_cases e : j = i
     ·rw [e]; exact hv
     ·exact hno j a (by omega)
    | true =>
     simp only [push_cast, simprocAttr]
     rw [f4 i (by omega) hi2 hv hno]
  ·obtain rfl : i = l.length := by omega
   simp only [push_cast, simprocAttr, hi2]
   rw [f3 hno]
 show wpc _ _ _ (.seq [0, 3] C134_0 (.scp (.seq [0, 3, 5, 6] C134_1 (.seq [0, 3, 5, 6] C134_5 (.seq [0, 3, 5, 6] .lab C134_27))))) _ _ _
 generalize C134_27 = Y at fin ⊢
 by_cases c4 : o.code = 4
 ·rw [hfr, if_pos c4] at fin
  simp only [push_cast, simprocAttr, c4]
  exact fin _ rfl
 ·rw [hfr, if_neg c4] at fin
  simp only [push_cast, simprocAttr, c4]
  exact fin _ rfl
end Go.Ab
end
section
namespace Go.Ab
open Go.Proofs
variable {G : Glo} {h : Heap}
abbrev keptN (l : List IOp) : List AV := [.int .i64 (1 + lastS l)]
section
variable {g : Heap} {b5 c3 : Nat} {p vx last vt : AV} {l : List IOp} {to : List Int}
theorem nop_spec (hr : PsO g b5 c3 p vx last l vt to (keptN l) h) (hl : l.length + 1 ≤ 1000000000000) (o : IOp) (hR : renOK to o) :
  Spec Tryz.prog G 105 [.ptr b5 0, .agg o.cells] h (OpP numF g b5 c3 p vx last l vt to keptN (ren to o)) := by
 obtain ⟨hR1, hR2⟩ := hR
 refine Spec.walk C105ok rfl ?_
 have fin : ∀ b3, h b3 = none → ∀ H, H = Ab.upd h b3 ⟨(ren to o).cells, 0⟩ → wpc Tryz.prog G Tryz.f105.ntmps C105_41 (retQ C105r (OpP numF g b5 c3 p vx last l vt to keptN (ren to o))) [(0, .ptr b5 0), (3, .ptr b3 0)] H := by
  rintro b3 hb3 H rfl
  obtain ⟨hu, n5, n3, hg3⟩ := hr.upd (x := ⟨(ren to o).cells, 0⟩) hb3
  have hbb := upd_same h b3 ⟨(ren to o).cells, 0⟩
  generalize ren to o = o' at *
  generalize Ab.upd h b3 ⟨o'.cells, 0⟩ = H at *
  have kF := borrow_is (nfind_spec (G := G) (h := noH) l to o' (by omega)) (h := H) (.cons hu.arg (.cons (.same _ _) .nil)) rfl
  have hF : numF l o' = (findN l o', o') := rfl
  simp only [push_cast, simprocAttr, hbb]
  refine kF.to ?_
  by_cases c0 : 0 ≤ findN l o'
  ·have c0' : findN l o' ≥ 0 := c0
   simp only [push_cast, simprocAttr, c0']
   refine ⟨b3, ⟨o'.cells, 0⟩, hg3, n5, n3, ?_, ?_⟩
   ·rw [hF]; simp only; rw [if_pos c0]
   ·rw [hF]; simp only; rw [if_pos c0]; exact hu
  ·have c0' : ¬ findN l o' ≥ 0 := c0
   unfold OpP
   rw [hF]
   simp only
   rw [if_neg c0, if_neg c0]
   obtain ⟨hn, vo, h1, o1, o2⟩ := hu
   obtain ⟨h2, o3, o4⟩ := own_swap o1 o2
   have kb5 := upd_same (Ab.upd (Ab.upd g b3 ⟨o'.cells, 0⟩) c3 ⟨[p, vo, vx, last], 0⟩) b5 ⟨.ptr c3 0 :: vt :: keptN l, 0⟩
   have kc3 : Ab.upd (Ab.upd (Ab.upd g b3 ⟨o'.cells, 0⟩) c3 ⟨[p, vo, vx, last], 0⟩) b5 ⟨.ptr c3 0 :: vt :: keptN l, 0⟩ c3 = some ⟨[p, vo, vx, last], 0⟩ := by rw [upd_ne (Ne.symm hn)]; exact upd_same _ _ _
   have kb3 : Ab.upd (Ab.upd (Ab.upd g b3 ⟨o'.cells, 0⟩) c3 ⟨[p, vo, vx, last], 0⟩) b5 ⟨.ptr c3 0 :: vt :: keptN l, 0⟩ b3 = some ⟨o'.cells, 0⟩ := by rw [upd_ne n5, upd_ne n3]; exact upd_same _ _ _
   have hb5 := o4.get (o3.get kb5)
   have hc3 := o4.get (o3.get kc3)
   simp only [push_cast, simprocAttr, hb5, hc3, c0', hbb]
   refine Own.app o4 (m := 1) (IOp.len _) (by omega) (by omega) fun v5 h5 o5 => ?_
   have hb55 := o5.get (o3.get kb5)
   have hc35 := o5.get (o3.get kc3)
   have hb35 := o5.get (o3.get kb3)
   have o5' : Own 6 h2 v5 ((l ++ [o']).flatMap IOp.cells) (l ++ [o']).length h5 := by simpa using o5
   have hm := PsO.made hn o3 o5'
   have hal := o5'.alen
   have u5 : Ab.upd h5 c3 ⟨[p, v5, vx, last], 0⟩ b5 = some ⟨.ptr c3 0 :: vt :: keptN l, 0⟩ := by rw [upd_ne hn]; exact hb55
   have u3 := upd_same h5 c3 ⟨[p, v5, vx, last], 0⟩
   have ub : Ab.upd h5 c3 ⟨[p, v5, vx, last], 0⟩ b3 = some ⟨o'.cells, 0⟩ := by rw [upd_ne n3]; exact hb35
   have hlen : ((l ++ [o']).length : Int) = l.length + 1 := by simp
   have e : ((l ++ [o']).length : Int) - 1 = l.length := by omega
   have hw := wrap_i64 (x := (l.length : Int)) (by omega) (by omega)
   have hlS := lastS_app l o'
   obtain ⟨_, j1, o6, tell⟩ := hm.tell
   by_cases c5 : o'.code = 5
   ·rw [if_pos c5] at hlS
    obtain ⟨_, hm2⟩ := tell _ _ (keptN (l ++ [o'])) _ o6
    have hk : (keptN (l ++ [o'])) = [.int .i64 ((l ++ [o']).length : Int)] := by
     show [AV.int .i64 (1 + lastS (l ++ [o']))] = _
     rw [hlS, hlen, Int.add_comm]
    rw [hk] at hm2
    have w5 := upd_same (Ab.upd h5 c3 ⟨[p, v5, vx, last], 0⟩) b5 ⟨.ptr c3 0 :: vt :: [.int .i64 ((l ++ [o']).length : Int)], 0⟩
    have w3 : Ab.upd (Ab.upd h5 c3 ⟨[p, v5, vx, last], 0⟩) b5 ⟨.ptr c3 0 :: vt :: [.int .i64 ((l ++ [o']).length : Int)], 0⟩ c3 = some ⟨[p, v5, vx, last], 0⟩ := by rw [upd_ne (Ne.symm hn)]; exact u3
    simp only [push_cast, simprocAttr, hb55, hc35, o5.one, u5, u3, ub, hal, c5, w5, w3, e, hw]
    exact ⟨b3, ⟨o'.cells, 0⟩, hg3, n5, n3, by rw [hk]; exact hm2⟩
   ·rw [if_neg c5] at hlS
    simp only [push_cast, simprocAttr, hb55, hc35, o5.one, u5, u3, ub, hal, c5, e, hw]
    refine ⟨b3, ⟨o'.cells, 0⟩, hg3, n5, n3, ?_⟩
    show PsO _ _ _ _ _ _ _ _ _ [.int .i64 (1 + lastS (l ++ [o']))] _
    rw [hlS]
    exact hm
 show wpc _ _ _ (.seq [0, 3] C105_0 (.seq [0, 3] C105_24 C105_41)) _ _ _
 generalize C105_41 = Y at fin ⊢
 simp only [push_cast, simprocAttr]
 intro b3 hb3
 have fin := fin b3 hb3
 obtain ⟨vo, hc3, hb5, _, _, _, _, g2, o2⟩ := hr.at
 have n3b : ¬ b5 = b3 := fun e => by rw [← e, hb5] at hb3; cases hb3
 have n3c : ¬ b3 = b5 := fun e => n3b e.symm
 by_cases g3 : o.code = 3 ∨ o.code = 5 ∨ o.code = 6
 ·obtain ⟨⟨q1, q2⟩, q3, q4⟩ := hR1 g3
  obtain ⟨bt, pre, cap, sp, rfl, e2, e3, e4⟩ := own_lie o2 (by omega)
  have f5 : ¬ bt = b3 := fun e => by rw [← e, e2] at hb3; cases hb3
  have q5 : o.a.toNat < to.length := by omega
  have q6 : o.b.toNat < to.length := by omega
  rcases g3 with g | g | g
  ·simp (disch := omega) only [push_cast, simprocAttr, wrap_i64, toNat_ofInt64, Nat.min_eq_left, Int.toNat_of_nonneg, upd_at, n3b, n3c, f5, hb5, e2, q1, q2, q3, q4, q5, q6, g]
   rw [show ren to o = ⟨o.code, to.getD o.a.toNat 0, to.getD o.b.toNat 0, o.imm, o.x, o.y⟩ from by unfold ren; rw [if_pos (by omega)], g] at fin ⊢
   exact fin _ rfl
  ·simp (disch := omega) only [push_cast, simprocAttr, wrap_i64, toNat_ofInt64, Nat.min_eq_left, Int.toNat_of_nonneg, upd_at, n3b, n3c, f5, hb5, e2, q1, q2, q3, q4, q5, q6, g]
   rw [show ren to o = ⟨o.code, to.getD o.a.toNat 0, to.getD o.b.toNat 0, o.imm, o.x, o.y⟩ from by unfold ren; rw [if_pos (by omega)], g] at fin ⊢
   exact fin _ rfl
  ·simp (disch := omega) only [push_cast, simprocAttr, wrap_i64, toNat_ofInt64, Nat.min_eq_left, Int.toNat_of_nonneg, upd_at, n3b, n3c, f5, hb5, e2, q1, q2, q3, q4, q5, q6, g]
   rw [show ren to o = ⟨o.code, to.getD o.a.toNat 0, to.getD o.b.toNat 0, o.imm, o.x, o.y⟩ from by unfold ren; rw [if_pos (by omega)], g] at fin ⊢
   exact fin _ rfl
 ·by_cases g4 : o.code = 4
  ·obtain ⟨q1, q2⟩ := hR2 g4
   obtain ⟨bt, pre, cap, sp, rfl, e2, e3, e4⟩ := own_lie o2 (by omega)
   have f5 : ¬ bt = b3 := fun e => by rw [← e, e2] at hb3; cases hb3
   have q5 : o.a.toNat < to.length := by omega
   simp (disch := omega) only [push_cast, simprocAttr, wrap_i64, toNat_ofInt64, Nat.min_eq_left, Int.toNat_of_nonneg, upd_at, n3b, n3c, f5, hb5, e2, q1, q2, q5, g4]
   rw [show ren to o = ⟨o.code, to.getD o.a.toNat 0, o.b, o.imm, o.x, o.y⟩ from by unfold ren; rw [if_neg g3, if_pos g4], g4] at fin ⊢
   exact fin _ rfl
  ·have g5 : ¬ o.code = 3 := by omega
   have g6 : ¬ o.code = 5 := by omega
   have g7 : ¬ o.code = 6 := by omega
   simp (disch := omega) only [push_cast, simprocAttr, wrap_i64, toNat_ofInt64, Nat.min_eq_left, Int.toNat_of_nonneg, upd_at, n3b, n3c, hb5, g4, g5, g6, g7]
   rw [show ren to o = o from by unfold ren; rw [if_neg g3, if_neg g4]] at fin ⊢
   exact fin _ rfl
end
end Go.Ab
end
section
namespace Go.Ab
open Go.Proofs
variable {G : Glo} {h : Heap}
theorem numDo_spec (b : IBk) (hw : b.wf) (hc : b.check = 0) : Spec Tryz.prog G 67 [bkP b] h (Is (.tup [bkP (b.ps numF), .int .i64 0]) h) := by
 obtain ⟨hops, hexs⟩ := right_parts hc
 obtain ⟨hs1, hs2, hs3⟩ := hw.hs
 refine Spec.weak (Q := fun r h' => ∃ c3 g vx, r = .tup [.ptr c3 0, .int .i64 0] ∧ h c3 = none ∧ Sub h g ∧ g c3 = some ⟨[.ro (wds b.pcs) b.pcs.length, ops (b.ps numF).ops, vx, .int .i64 b.last], 0⟩ ∧ ExO g vx (b.ps numF).exits h') ?_ ?_
 ·refine Spec.walk C67ok rfl ?_
  simp only [push_cast, simprocAttr]
  refine (Check_spec b hw).to ?_
  rw [hc]
  simp only [push_cast, simprocAttr]
  refine (Clone_spec b hw).mono ?_
  rintro _ h1 ⟨c3, g, vx, rfl, hn3, hs, hc3, hx⟩
  have hc3' := hx.sub c3 _ hc3
  simp only [push_cast, simprocAttr, hc3']
  intro b5 hb5
  have n53 : b5 ≠ c3 := fun e => by rw [e, hc3'] at hb5; cases hb5
  have n35 : ¬ c3 = b5 := fun e => n53 e.symm
  simp only [push_cast, simprocAttr, hc3', upd_at, n53, n35]
  refine lpc.rel [5, 29, 30, 31] (fun m ρ h' => ∃ (k : Nat) (vt : AV) (g gg : Heap), m = b.ops.length - k ∧ k ≤ b.ops.length ∧ Sub h g ∧ ExO g vx b.exits gg ∧ gg b5 = none ∧ g c3 = some ⟨[.ro (wds b.pcs) b.pcs.length, ops b.ops, vx, .int .i64 b.last], 0⟩ ∧ PsO gg b5 c3 (.ro (wds b.pcs) b.pcs.length) vx (.int .i64 b.last) (psN numF (b.ops.take k)).l vt (psN numF (b.ops.take k)).to (keptN (psN numF (b.ops.take k)).l) h' ∧
   ρ = [(5, .ptr b5 0), (29, ops b.ops), (30, .int .i64 (b.ops.length : Int)), (31, .int .i64 (k : Int))]) ⟨_, 0, .nils, g, h1, rfl, by omega, hs, hx, hb5, hc3, ⟨n53, .nils, _, .nil, ?_⟩, rfl⟩ ?_
  ·rw [upd_comm n53]
   exact .nil
  rintro m _ h2 ⟨k, vt, g, gg, rfl, hk, hs, hx, hb5, hc3, hr, rfl⟩
  simp only [push_cast, simprocAttr]
  refine ⟨fun hk2 => ⟨hk2, hk2, fun c hc1 => ?_⟩, fun hk2 => ?_⟩
  ·rw [era_none hc1]
   have hst := psstep_eq numF (psN numF (b.ops.take k)) (b.ops.getD k IOp.zero)
   rw [← psN_succ numF b.ops k hk2] at hst
   have htl : (psN numF (b.ops.take k)).to.length = k := by rw [psN_to, List.length_take]; omega
   have hll := psN_l numF (b.ops.take k)
   rw [List.length_take] at hll
   have hok := renOK_of (hops k hk2) htl
   generalize psN numF (b.ops.take k) = f at *
   obtain ⟨hbb, _⟩ := hr.tell
   simp only [push_cast, simprocAttr, hbb]
   refine (nop_spec hr (by omega) (b.ops.getD k IOp.zero) hok).mono ?_
   rintro _ h6 ⟨c', x, hcg, hcb, hcc, rfl, hr6⟩
   obtain ⟨hb6, j1, o6, tell⟩ := hr6.tell
   simp only [push_cast, simprocAttr, hb6]
   refine Own.app o6 (m := 1) rfl (by omega) (by omega) fun v3 h7 o7 => ?_
   have tell3 := fun to' rest' o => tell v3 to' rest' h7 o
   obtain ⟨hb7, hr7⟩ := tell3 (f.to ++ [if 0 ≤ (numF f.l (ren f.to (b.ops.getD k IOp.zero))).1 then (numF f.l (ren f.to (b.ops.getD k IOp.zero))).1 else (f.l.length : Int)]) (keptN (if 0 ≤ (numF f.l (ren f.to (b.ops.getD k IOp.zero))).1 then f.l else f.l ++ [(numF f.l (ren f.to (b.ops.getD k IOp.zero))).2])) (by simpa using o7)
   simp (disch := omega) only [push_cast, simprocAttr, wrap_i64, toNat_ofInt64, Nat.min_eq_left, Int.toNat_of_nonneg, hb7, o7.one]
   refine ⟨_, _, by omega, .refl _, k + 1, v3, Ab.upd g c' x, Ab.upd gg c' x, rfl, by omega, sub_upd (hs.none (hx.sub.none hcg)) hs, hx.upd (.inl hcg), by rw [upd_ne (Ne.symm hcb)]; exact hb5, by rw [upd_ne (Ne.symm hcc)]; exact hc3, ?_, rfl⟩
   rw [hst]
   exact hr7
  ·obtain rfl : k = b.ops.length := by omega
   rw [List.take_length] at hr
   have htl := psN_to numF b.ops
   have hps : (b.ps numF).ops = (psN numF b.ops).l := rfl
   have hpe : (b.ps numF).exits = b.exits.map (renE (psN numF b.ops).to) := rfl
   rw [hps, hpe]
   generalize psN numF b.ops = f at *
   refine ⟨_, _, hr.data, ?_⟩
   have hx1 := hx.upd (b := c3) (x := ⟨[.ro (wds b.pcs) b.pcs.length, ops f.l, vx, .int .i64 b.last], 0⟩) (.inr ⟨_, hc3⟩)
   have hx2 := hx1.upd (b := b5) (x := ⟨.ptr c3 0 :: .ro (f.to.map (.int .i64)) f.to.length :: keptN f.l, 0⟩) (.inl (by rw [upd_ne n53]; exact hb5))
   have hG5 := upd_same (Ab.upd g c3 ⟨[.ro (wds b.pcs) b.pcs.length, ops f.l, vx, .int .i64 b.last], 0⟩) b5 ⟨.ptr c3 0 :: .ro (f.to.map (.int .i64)) f.to.length :: keptN f.l, 0⟩
   have hG3 : Ab.upd (Ab.upd g c3 ⟨[.ro (wds b.pcs) b.pcs.length, ops f.l, vx, .int .i64 b.last], 0⟩) b5 ⟨.ptr c3 0 :: .ro (f.to.map (.int .i64)) f.to.length :: keptN f.l, 0⟩ c3 = some ⟨[.ro (wds b.pcs) b.pcs.length, ops f.l, vx, .int .i64 b.last], 0⟩ := by rw [upd_ne (Ne.symm n53)]; exact upd_same _ _ _
   have hsG : Sub h (Ab.upd (Ab.upd g c3 ⟨[.ro (wds b.pcs) b.pcs.length, ops f.l, vx, .int .i64 b.last], 0⟩) b5 ⟨.ptr c3 0 :: .ro (f.to.map (.int .i64)) f.to.length :: keptN f.l, 0⟩) := sub_upd (hs.none (hx.sub.none hb5)) (sub_upd hn3 hs)
   generalize Ab.upd (Ab.upd g c3 _) b5 _ = G1 at hx2 hG5 hG3 hsG
   generalize Ab.upd (Ab.upd gg c3 _) b5 _ = H1 at hx2 ⊢
   have hH5 := hx2.sub b5 _ hG5
   have hH3 := hx2.sub c3 _ hG3
   have hal : alen vx = some b.exits.length := by
    obtain ⟨_, _, o, _⟩ := hx2
    exact o.alen
   simp only [push_cast, simprocAttr, hH5, hH3, hal]
   refine lpc.rel [5, 55, 56] (fun m ρ h' => ∃ k : Nat, m = b.exits.length - k ∧ k ≤ b.exits.length ∧ ExO G1 vx (mapK (renE f.to) b.exits k) h' ∧
    ρ = [(5, .ptr b5 0), (55, .int .i64 (b.exits.length : Int)), (56, .int .i64 (k : Int))]) ⟨_, 0, rfl, by omega, hx2, rfl⟩ ?_
   rintro m _ h3 ⟨k, rfl, hk, hx3, rfl⟩
   have hJ5 := hx3.sub b5 _ hG5
   have hJ3 := hx3.sub c3 _ hG3
   by_cases hk2 : k < b.exits.length
   ·have hlk := mapK_len (renE f.to) b.exits k
    have hx4 := hx3
    obtain ⟨h4, ws, o, r⟩ := hx4
    obtain ⟨br, pre, cap, sp, hv, e2, e3, e4⟩ := own_lie o (by omega)
    rw [hlk] at hv
    subst hv
    have hgk := mapK_get (f := renE f.to) IEx.zero hk2
    have hml := getD_map (n := k) hs3
    have hB0 := fun Q => psx_body (Q := Q) (G := G) (n5 := b.exits.length) (k := k) hG5 hG3 hx3 (by omega) (by omega) (by rw [hgk]; exact exOK_of (hexs k hk2) htl) (by rw [hgk]; exact hml)
    have hB : ∀ Q, (∀ ρ h', lk ρ 5 = .ptr b5 0 → lk ρ 55 = .int .i64 (b.exits.length : Int) → lk ρ 56 = .int .i64 k → ExO G1 (.sl br pre.length b.exits.length cap) ((mapK (renE f.to) b.exits k).set k (renE f.to ((mapK (renE f.to) b.exits k).getD k IEx.zero))) h' → Q .normal ρ h') → wpc Tryz.prog G Tryz.f67.ntmps C67_51 Q [(5, .ptr b5 0), (55, .int .i64 (b.exits.length : Int)), (56, .int .i64 k)] h3 := hB0
    show wpc _ _ _ (.seq [5, 55, 56, 57] C67_26 (.seq [5, 55, 56] C67_27 (.seq [5, 55, 56] C67_51 C67_52))) _ _ _
    generalize C67_51 = Y at hB ⊢
    simp only [push_cast, simprocAttr, hk2]
    refine hB _ fun ρ h5 e5 e55 e56 hx5 => ?_
    rw [hgk, mapK_set _ hk2] at hx5
    simp (disch := omega) only [push_cast, simprocAttr, wrap_i64, toNat_ofInt64, Nat.min_eq_left, Int.toNat_of_nonneg, e5, e55, e56]
    exact ⟨_, _, by omega, .refl _, k + 1, rfl, by omega, hx5, rfl⟩
   ·obtain rfl : k = b.exits.length := by omega
    have hme : mapK (renE f.to) b.exits b.exits.length = b.exits.map (renE f.to) := by simp [mapK]
    rw [hme] at hx3
    simp only [push_cast, simprocAttr, hJ5, hJ3, hk2]
    exact ⟨c3, G1, vx, rfl, hn3, hsG, hG3, hx3⟩
 ·rintro _ _ ⟨c3, g, vx, rfl, hn3, hs, hc3, hx⟩
  exact ⟨_, _, ⟨rfl, rfl⟩, le_tup1 (exo_le hs hn3 hc3 hx)⟩
end Go.Ab
end
section
namespace Go.Ab
def namedX (l : List IOp) (last : Int) (n : Nat) : Bool := decide (last = n) || l.any fun o => decide (4 ≤ o.code) && decide (o.x = n) || decide (o.code = 5) && decide (o.y = n)
def plN (nm : Nat → Bool) (n : Nat) : Nat := ((List.range n).filter nm).length
def reX (pl : Nat → Nat) (o : IOp) : IOp :=
 if o.code = 5 then { o with x := (pl o.x.toNat : Int), y := (pl o.y.toNat : Int) } else if 4 ≤ o.code then { o with x := (pl o.x.toNat : Int) } else o
def keptE (nm : Nat → Bool) (es : List IEx) : List IEx := ((List.range es.length).filter nm).map fun n => es.getD n IEx.zero
theorem plN_succ (nm : Nat → Bool) (n : Nat) : plN nm (n + 1) = plN nm n + if nm n then 1 else 0 := by
 rw [plN, plN, List.range_succ, List.filter_append, List.length_append]
 cases h : nm n <;> simp [h]
theorem plN_mono (nm : Nat → Bool) {i j : Nat} (h : i ≤ j) : plN nm i ≤ plN nm j := by
  induction j with
  | zero => have : i = 0 := by omega
            rw [this]; exact Nat.le_refl _
  | succ j ih =>
    by_cases e : i = j + 1
    · rw [e]; exact Nat.le_refl _
    · have := ih (by omega)
      rw [plN_succ]; omega
theorem plN_lt (nm : Nat → Bool) {i j : Nat} (h : i < j) (hi : nm i = true) : plN nm i < plN nm j := by
 have h1 := plN_succ nm i
 rw [hi, if_pos rfl] at h1
 have := plN_mono nm (show i + 1 ≤ j by omega)
 omega
theorem kept_len (nm : Nat → Bool) (es : List IEx) : (keptE nm es).length = plN nm es.length := by simp [keptE, plN]
theorem filt_at (nm : Nat → Bool) {n L : Nat} (hn : n < L) (hm : nm n = true) : ((List.range L).filter nm)[plN nm n]? = some n := by
 induction L with
 | zero => omega
 | succ L ih =>
  rw [List.range_succ, List.filter_append]
  by_cases e : n = L
  ·subst e
   rw [List.getElem?_append_right (show (List.filter nm (List.range n)).length ≤ plN nm n from Nat.le_refl _)]
   simp [plN, hm]
  ·rw [List.getElem?_append_left (by have := plN_lt nm (show n < L by omega) hm; exact this)]
   exact ih (by omega)
theorem filt_src (nm : Nat → Bool) {L i : Nat} (hi : i < plN nm L) : ∃ n, n < L ∧ nm n = true ∧ plN nm n = i := by
 induction L with
 | zero => simp [plN] at hi
 | succ L ih =>
  rw [plN_succ] at hi
  by_cases h : i < plN nm L
  ·obtain ⟨n, h1, h2, h3⟩ := ih h
   exact ⟨n, by omega, h2, h3⟩
  ·cases hm : nm L with
   | true => rw [hm, if_pos rfl] at hi; exact ⟨L, by omega, hm, by omega⟩
   | false => rw [hm] at hi; simp at hi; omega
theorem kept_at (nm : Nat → Bool) (es : List IEx) {n : Nat} (hn : n < es.length) (hm : nm n = true) : (keptE nm es).getD (plN nm n) IEx.zero = es.getD n IEx.zero ∧ plN nm n < (keptE nm es).length := by
 constructor
 ·rw [List.getD_eq_getElem?_getD, keptE, List.getElem?_map, filt_at nm hn hm]
  rfl
 ·rw [kept_len]; exact plN_lt nm hn hm
theorem reX_code (pl : Nat → Nat) (o : IOp) : (reX pl o).code = o.code ∧ (reX pl o).a = o.a ∧ (reX pl o).b = o.b ∧ (reX pl o).imm = o.imm := by
 unfold reX
 split
 ·exact ⟨rfl, rfl, rfl, rfl⟩
 ·split <;> exact ⟨rfl, rfl, rfl, rfl⟩
def takes (o : IOp) (x : Int) : Prop := (4 ≤ o.code ∧ o.x = x) ∨ (o.code = 5 ∧ o.y = x)
theorem takes_named {l : List IOp} {last : Int} {o : IOp} (ho : o ∈ l) {x : Int} (h : takes o x) (hx : 0 ≤ x) : namedX l last x.toNat = true := by
 unfold namedX
 rw [Bool.or_eq_true, List.any_eq_true]
 right
 refine ⟨o, ho, ?_⟩
 have e : ((x.toNat : Nat) : Int) = x := by omega
 rw [e]
 rcases h with ⟨h1, h2⟩ | ⟨h1, h2⟩
 ·simp [h1, h2]
 ·simp [h1, h2]
def prB (pcs : List (BitVec 32)) (l : List IOp) (es : List IEx) (last : Int) (tr : IEx → IEx) : IBk :=
 ⟨pcs, l.map (reX (plN (namedX l last))), (keptE (namedX l last) es).map tr, (plN (namedX l last) last.toNat : Int)⟩
theorem pr_ex {pcs : List (BitVec 32)} {l : List IOp} {es : List IEx} {last : Int} {tr : IEx → IEx} {n : Nat} (hn : n < es.length) (hm : namedX l last n = true) :
  (prB pcs l es last tr).ex (plN (namedX l last) n) = tr (es.getD n IEx.zero) ∧ plN (namedX l last) n < (prB pcs l es last tr).exits.length := by
 obtain ⟨h1, h2⟩ := kept_at (namedX l last) es hn hm
 have h3 : plN (namedX l last) n < (prB pcs l es last tr).exits.length := by simp only [prB, List.length_map]; exact h2
 refine ⟨?_, h3⟩
 rw [IBk.ex, List.getD_eq_getElem?_getD, List.getElem?_eq_getElem h3]
 simp only [prB, List.getElem_map, Option.getD_some]
 rw [← h1, List.getD_eq_getElem?_getD, List.getElem?_eq_getElem h2]
 rfl
end Go.Ab
end
section
namespace Go.Ab
def opKb (o : IOp) : Bool :=
 if o.code = 1 then decide (1 ≤ (o.imm.toNat : Int)) && decide ((o.imm.toNat : Int) ≤ 31) && decide (o.x = 0) && decide (o.y = 0) && decide (o.a = 0) && decide (o.b = 0)
 else if o.code = 2 then decide (o.x = 0) && decide (o.y = 0) && decide (o.a = 0) && decide (o.b = 0)
 else if o.code = 3 then reckonsN o.imm.toNat && decide (o.x = 0) && decide (o.y = 0)
 else if o.code = 4 then decide (0 < loadsN o.imm.toNat) && decide (o.y = 0) && decide (o.b = 0)
 else if o.code = 5 then decide (0 < storesN o.imm.toNat)
 else if o.code = 6 then decide (5 ≤ (o.imm.toNat : Int)) && decide ((o.imm.toNat : Int) ≤ 10) && decide (o.y = 0)
 else false
theorem opK_of {b : IBk} {k : Nat} (hk : b.opR k = true) : opKb (b.ops.getD k IOp.zero) = true := by
 rw [opR_eq b k rfl] at hk
 generalize b.ops.getD k IOp.zero = o at hk
 unfold opKb
 (repeat' split at hk)
 all_goals simp_all
theorem opK_ren (to : List Int) (o : IOp) : opKb (ren to o) = opKb o := by
 unfold ren
 by_cases c : o.code = 3 ∨ o.code = 5 ∨ o.code = 6
 ·rw [if_pos c]
  rcases c with h | h | h <;> simp [opKb, h]
 ·rw [if_neg c]
  by_cases c4 : o.code = 4
  ·rw [if_pos c4]; simp [opKb, c4]
  ·rw [if_neg c4]
theorem vin_map {l : List IOp} {pl : Nat → Nat} {j : Nat} {n : Int} (h : vin l j n) : vin (l.map (reX pl)) j n := by
 obtain ⟨h1, h2, h3, h4⟩ := h
 refine ⟨h1, h2, by rw [List.length_map]; exact h3, ?_⟩
 have e : (l.map (reX pl)).getD n.toNat IOp.zero = reX pl (l.getD n.toNat IOp.zero) := by
  have hn : n.toNat < l.length := by omega
  simp [hn]
 rw [e]
 unfold valued at h4 ⊢
 rw [(reX_code pl _).1]
 exact h4
def exAt (l : List IOp) (es : List IEx) (tr : IEx → IEx) (j : Nat) (x : Int) : Prop :=
 (0 ≤ x ∧ x < es.length) ∧ ((tr (es.getD x.toNat IEx.zero)).to = -1 ∨ vin l j (tr (es.getD x.toNat IEx.zero)).to) ∧ ∀ v ∈ (tr (es.getD x.toNat IEx.zero)).map, vin l j v.val
def leafK (n : Nat) (e : IEx) : Prop := 0 ≤ e.done ∧ e.done ≤ n ∧ e.pc.toNat % 4 = 0 ∧ 1 ≤ e.why ∧ e.why ≤ 4 ∧ ∀ i, i < e.map.length → regN e i = true
section
variable {pcs : List (BitVec 32)} {l : List IOp} {es : List IEx} {last : Int} {tr : IEx → IEx}
theorem pr_exit {j : Nat} {x : Int} (h : exAt l es tr j x) (hn : namedX l last x.toNat = true) : (prB pcs l es last tr).exit (plN (namedX l last) x.toNat : Nat) j = true := by
 obtain ⟨⟨h1, h2⟩, h3, h4⟩ := h
 obtain ⟨q1, q2⟩ := pr_ex (pcs := pcs) (tr := tr) (show x.toNat < es.length by omega) hn
 simp only [IBk.exit, Bool.and_eq_true, Bool.or_eq_true, decide_eq_true_eq, Int.toNat_natCast]
 rw [q1]
 refine ⟨⟨⟨by omega, by omega⟩, ?_⟩, allN_true fun i hi => ?_⟩
 ·rcases h3 with h | h
  ·exact .inl h
  ·exact .inr (vin_val (b := prB pcs l es last tr) (vin_map h))
 ·have hm := h4 _ (List.getElem_mem hi)
  have e2 : ∀ (e : IEx) (hi : i < e.map.length), e.vl i = e.map[i] := fun e hi => by simp [IEx.vl, hi]
  rw [e2 _ hi]
  exact vin_val (b := prB pcs l es last tr) (vin_map hm)
theorem pr_opR {j : Nat} (hj : j < l.length) (hg : goodAt l j (l.getD j IOp.zero)) (hk : opKb (l.getD j IOp.zero) = true) (hx : ∀ x, takes (l.getD j IOp.zero) x → exAt l es tr j x) : (prB pcs l es last tr).opR j = true := by
 have hmem : l.getD j IOp.zero ∈ l := by
  have : l.getD j IOp.zero = l[j] := by simp [hj]
  rw [this]; exact List.getElem_mem hj
 have he : (prB pcs l es last tr).ops.getD j IOp.zero = reX (plN (namedX l last)) (l.getD j IOp.zero) := by simp [prB, hj]
 rw [opR_eq _ _ he]
 have hex : ∀ x, takes (l.getD j IOp.zero) x → (prB pcs l es last tr).exit (plN (namedX l last) x.toNat : Nat) j = true := fun x h => pr_exit (hx x h) (takes_named hmem h (hx x h).1.1)
 have hv : ∀ n, vin l j n → (prB pcs l es last tr).val n j = true := fun n h => vin_val (b := prB pcs l es last tr) (vin_map h)
 generalize plN (namedX l last) = pl at *
 generalize l.getD j IOp.zero = o at *
 obtain ⟨e1, e2, e3, e4⟩ := reX_code pl o
 rw [e1, e2, e3, e4]
 unfold opKb at hk
 by_cases c1 : o.code = 1
 ·have : reX pl o = o := by unfold reX; rw [if_neg (by omega), if_neg (by omega)]
  rw [this]; rw [if_pos c1] at hk ⊢; exact hk
 rw [if_neg c1] at hk ⊢
 by_cases c2 : o.code = 2
 ·have : reX pl o = o := by unfold reX; rw [if_neg (by omega), if_neg (by omega)]
  rw [this]; rw [if_pos c2] at hk ⊢; exact hk
 rw [if_neg c2] at hk ⊢
 by_cases c3 : o.code = 3
 ·have : reX pl o = o := by unfold reX; rw [if_neg (by omega), if_neg (by omega)]
  have g := hg.1 (.inl c3)
  rw [this]; rw [if_pos c3] at hk ⊢
  simp only [Bool.and_eq_true] at hk ⊢
  exact ⟨⟨hk, hv _ g.1⟩, hv _ g.2⟩
 rw [if_neg c3] at hk ⊢
 by_cases c4 : o.code = 4
 ·have ex : (reX pl o).x = (pl o.x.toNat : Int) ∧ (reX pl o).y = o.y := by unfold reX; rw [if_neg (by omega), if_pos (by omega)]; exact ⟨rfl, rfl⟩
  have g := hg.2 c4
  rw [ex.1, ex.2]; rw [if_pos c4] at hk ⊢
  simp only [Bool.and_eq_true] at hk ⊢
  exact ⟨⟨hk, hv _ g⟩, hex _ (.inl ⟨by omega, rfl⟩)⟩
 rw [if_neg c4] at hk ⊢
 by_cases c5 : o.code = 5
 ·have ex : (reX pl o).x = (pl o.x.toNat : Int) ∧ (reX pl o).y = (pl o.y.toNat : Int) := by unfold reX; rw [if_pos c5]; exact ⟨rfl, rfl⟩
  have g := hg.1 (.inr (.inl c5))
  rw [ex.1, ex.2]; rw [if_pos c5] at hk ⊢
  simp only [Bool.and_eq_true] at hk ⊢
  exact ⟨⟨⟨⟨hk, hv _ g.1⟩, hv _ g.2⟩, hex _ (.inl ⟨by omega, rfl⟩)⟩, hex _ (.inr ⟨c5, rfl⟩)⟩
 rw [if_neg c5] at hk ⊢
 by_cases c6 : o.code = 6
 ·have ex : (reX pl o).x = (pl o.x.toNat : Int) ∧ (reX pl o).y = o.y := by unfold reX; rw [if_neg (by omega), if_pos (by omega)]; exact ⟨rfl, rfl⟩
  have g := hg.1 (.inr (.inr c6))
  rw [ex.1, ex.2]; rw [if_pos c6] at hk ⊢
  simp only [Bool.and_eq_true] at hk ⊢
  exact ⟨⟨⟨hk, hv _ g.1⟩, hv _ g.2⟩, hex _ (.inl ⟨by omega, rfl⟩)⟩
 ·rw [if_neg c6] at hk; cases hk
theorem pr_check (hp1 : 0 < pcs.length) (hp2 : pcs.length ≤ 32) (hp3 : ∀ i, i < pcs.length → pcR pcs i = true) (hl : l.length ≤ 512) (hes : es.length ≤ 128)
  (hg : goodL l) (hk : ∀ j, j < l.length → opKb (l.getD j IOp.zero) = true) (hx : ∀ j, j < l.length → ∀ x, takes (l.getD j IOp.zero) x → exAt l es tr j x)
  (hla : exAt l es tr l.length last) (hlf : ∀ n, n < es.length → namedX l last n = true → leafK pcs.length (tr (es.getD n IEx.zero)) ∧ exAt l es tr l.length n) : (prB pcs l es last tr).check = 0 := by
 have hb : ∀ n : Nat, namedX l last n = true → (last = n ∨ ∃ o ∈ l, takes o n) := by
  intro n h
  unfold namedX at h
  rw [Bool.or_eq_true, List.any_eq_true, decide_eq_true_eq] at h
  rcases h with h | ⟨o, h1, h2⟩
  ·exact .inl h
  ·simp only [Bool.or_eq_true, Bool.and_eq_true, decide_eq_true_eq] at h2
   exact .inr ⟨o, h1, h2⟩
 have hlong : (prB pcs l es last tr).long = false := by
  have h1 : (keptE (namedX l last) es).length ≤ es.length := by
   rw [kept_len, plN]
   have := List.length_filter_le (namedX l last) (List.range es.length)
   simpa using this
  have e1 : (prB pcs l es last tr).ops.length = l.length := by simp [prB]
  have e2 : (prB pcs l es last tr).exits.length = (keptE (namedX l last) es).length := by simp [prB]
  have e3 : (prB pcs l es last tr).pcs.length = pcs.length := rfl
  simp only [IBk.long, Bool.or_eq_false_iff, decide_eq_false_iff_not, e1, e2, e3]
  omega
 have hright : (prB pcs l es last tr).right = true := by
  simp only [IBk.right, Bool.and_eq_true, decide_eq_true_eq]
  refine ⟨⟨⟨⟨allN_true fun j hj => ?_, allN_true fun i hi => ?_⟩, allN_true hp3⟩, hp1⟩, ?_⟩
  ·have hj' : j < l.length := by simpa [prB] using hj
   exact pr_opR hj' (hg j hj') (hk j hj') (hx j hj')
  ·have hi' : i < plN (namedX l last) es.length := by simpa [prB, kept_len] using hi
   obtain ⟨n, h1, h2, h3⟩ := filt_src _ hi'
   obtain ⟨q1, q2⟩ := pr_ex (pcs := pcs) (tr := tr) h1 h2
   obtain ⟨k1, k2⟩ := hlf n h1 h2
   have hxx := pr_exit (pcs := pcs) (last := last) k2 (by rw [Int.toNat_natCast]; exact h2)
   rw [Int.toNat_natCast] at hxx
   rw [← h3, leaves_eq, headN, q1]
   obtain ⟨z1, z2, z3, z4, z5, z6⟩ := k1
   have hol : (prB pcs l es last tr).ops.length = l.length := by simp [prB]
   have hpl : (prB pcs l es last tr).pcs.length = pcs.length := rfl
   rw [hol, hpl, hxx, decide_eq_true z1, decide_eq_true (by omega), decide_eq_true z3, decide_eq_true z4, decide_eq_true z5, allN_true z6]
   rfl
  ·have hol : (prB pcs l es last tr).ops.length = l.length := by simp [prB]
   rw [hol]
   refine pr_exit hla ?_
   unfold namedX
   rw [Bool.or_eq_true, decide_eq_true_eq]
   left
   have := hla.1.1
   omega
 rw [IBk.check, hlong, if_neg (by simp), if_pos hright]
end
theorem leafK_of {b : IBk} {n : Nat} (h : b.leaves n = true) : leafK b.pcs.length (b.exits.getD n IEx.zero) := by
 rw [leaves_eq, headN] at h
 simp only [Bool.and_eq_true, decide_eq_true_eq] at h
 obtain ⟨⟨⟨⟨⟨⟨_, q2⟩, q3⟩, q4⟩, q5⟩, q6⟩, q7⟩ := h
 have he : b.ex n = b.exits.getD n IEx.zero := rfl
 rw [he] at q2 q3 q4 q5 q6 q7
 exact ⟨q2, by omega, q4, q5, q6, fun i hi => allN_get q7 i hi⟩
theorem long_parts {b : IBk} (hc : b.check = 0) : b.pcs.length ≤ 32 ∧ b.ops.length ≤ 512 ∧ b.exits.length ≤ 128 ∧ 0 < b.pcs.length ∧ ∀ i, i < b.pcs.length → pcR b.pcs i = true := by
 have hr := chk_right hc
 have hl : b.long = false := by
  unfold IBk.check at hc
  split at hc
  ·cases hc
  ·rename_i h; simpa using h
 simp only [IBk.long, Bool.or_eq_false_iff, decide_eq_false_iff_not] at hl
 simp only [IBk.right, Bool.and_eq_true, decide_eq_true_eq] at hr
 exact ⟨by omega, by omega, by omega, hr.1.2, fun i hi => allN_get hr.1.1.2 i hi⟩
end Go.Ab
end
section
namespace Go.Ab
def otherN (n : Int) : Int := if n = 5 ∨ n = 7 ∨ n = 9 then n + 1 else if n = 6 ∨ n = 8 ∨ n = 10 then n - 1 else 0
def scanG : List IOp → IOp → Int
 | [], _ => 0
 | p :: r, o => if p.code = 6 ∧ p.a = o.a ∧ p.b = o.b then (if (p.imm.toNat : Int) = o.imm.toNat then 1 else if (p.imm.toNat : Int) = otherN o.imm.toNat then 2 else scanG r o) else scanG r o
def gk (l : List IOp) (o : IOp) : Int :=
 if (l.getD o.a.toNat IOp.zero).code = 2 ∧ (l.getD o.b.toNat IOp.zero).code = 2 then (if takenN o.imm.toNat (l.getD o.a.toNat IOp.zero).imm (l.getD o.b.toNat IOp.zero).imm then 1 else 2)
 else if o.a = o.b then (if (o.imm.toNat : Int) = 5 ∨ (o.imm.toNat : Int) = 8 ∨ (o.imm.toNat : Int) = 10 then 1 else 2)
 else scanG l o
def gF : Rw := fun l o => if o.code = 6 ∧ gk l o = 1 then ((l.length : Int), o) else (-1, o)
theorem taken_self {n : Int} (h : 5 ≤ n ∧ n ≤ 10) (a : BitVec 32) : takenN n a a = decide (n = 5 ∨ n = 8 ∨ n = 10) := by
 rcases (show n = 5 ∨ n = 6 ∨ n = 7 ∨ n = 8 ∨ n = 9 ∨ n = 10 by omega) with rfl | rfl | rfl | rfl | rfl | rfl <;> simp [takenN]
theorem kind_guard {o : IOp} (h6 : o.code = 6) (hk : kindN o = true) : 5 ≤ (o.imm.toNat : Int) ∧ (o.imm.toNat : Int) ≤ 10 := by
 unfold kindN at hk
 simp only at hk
 rw [if_neg (by omega), if_neg (by omega), if_neg (by omega), if_neg (by omega), if_neg (by omega), if_pos h6] at hk
 simpa using hk
theorem gF_ok : RwOk gF := by
 refine ⟨fun l o hl ho h0 hv => ?_, fun l o h0 => .inl ?_⟩
 ·unfold gF at h0
  split at h0
  ·rename_i c
   have := hv.2
   omega
  ·simp at h0
 ·unfold gF; split <;> rfl
def gScan (last : Int) : List IOp → Ps → Ps × Int
 | [], s => (s, last)
 | o :: r, s => if (ren s.to o).code = 6 ∧ gk s.l (ren s.to o) = 2 then (s, (ren s.to o).x) else gScan last r (s.step gF o)
def IBk.gd (b : IBk) : IBk := prB b.pcs (gScan b.last b.ops ⟨[], []⟩).1.l b.exits (gScan b.last b.ops ⟨[], []⟩).2 (renE (gScan b.last b.ops ⟨[], []⟩).1.to)
theorem gScan_at (ops : List IOp) (last : Int) : ∀ n k, k + n = ops.length → ∃ m, m ≤ ops.length ∧ (gScan last (ops.drop k) (psN gF (ops.take k))).1 = psN gF (ops.take m) ∧
  (m = ops.length ∧ (gScan last (ops.drop k) (psN gF (ops.take k))).2 = last ∨ m < ops.length ∧ (ops.getD m IOp.zero).code = 6 ∧ gk (psN gF (ops.take m)).l (ren (psN gF (ops.take m)).to (ops.getD m IOp.zero)) = 2 ∧ (gScan last (ops.drop k) (psN gF (ops.take k))).2 = (ops.getD m IOp.zero).x) := by
 intro n
 induction n with
 | zero =>
  intro k hk
  rw [List.drop_of_length_le (by omega)]
  have : k = ops.length := by omega
  subst this
  exact ⟨_, Nat.le_refl _, rfl, .inl ⟨rfl, rfl⟩⟩
 | succ n ih =>
  intro k hk
  have hk2 : k < ops.length := by omega
  have hdr : ops.drop k = ops.getD k IOp.zero :: ops.drop (k + 1) := by
   rw [List.drop_eq_getElem_cons hk2]; congr 1; simp [hk2]
  rw [hdr, gScan]
  split
  ·rename_i c
   rw [ren_code] at c
   exact ⟨k, by omega, rfl, .inr ⟨hk2, c.1, c.2, (ren_xy _ _).1⟩⟩
  ·rw [← psN_succ gF ops k hk2]
   exact ih (k + 1) (by omega)
theorem pre_vin {f : Rw} (hf : RwOk f) {b : IBk} (hc : b.check = 0) {i m : Nat} (hi : i ≤ m) (hm : m ≤ b.ops.length) {n : Int} (h : vin b.ops i n) : vin (psN f (b.ops.take m)).l (psN f (b.ops.take i)).l.length ((psN f (b.ops.take m)).to.getD n.toNat 0) := by
 have hI := ps_inv hf hc i (by omega)
 obtain ⟨u, t, e1, e2⟩ := psN_pre f (b.ops.take m) i
 rw [List.take_take, Nat.min_eq_left hi] at e1 e2
 obtain ⟨h1, h2, h3, h4⟩ := h
 rw [e1, e2, getD_lt (by rw [hI.to]; omega)]
 exact vin_pre (hI.vals n.toNat (by omega) h4)
theorem pre_exAt {f : Rw} (hf : RwOk f) {b : IBk} (hc : b.check = 0) {i m : Nat} (hi : i ≤ m) (hm : m ≤ b.ops.length) {x : Int} (h : b.exit x i = true) : exAt (psN f (b.ops.take m)).l b.exits (renE (psN f (b.ops.take m)).to) (psN f (b.ops.take i)).l.length x := by
 obtain ⟨⟨h1, h2⟩, h3, h4⟩ := exit_parts h
 have he : b.ex x.toNat = b.exits.getD x.toNat IEx.zero := rfl
 rw [he] at h3 h4
 refine ⟨⟨h1, h2⟩, ?_, fun v hv => ?_⟩
 ·rcases h3 with h | h
  ·left; simp only [renE]; rw [if_pos h]
  ·right
   have hne : (b.exits.getD x.toNat IEx.zero).to ≠ -1 := by have := h.1; omega
   simp only [renE, if_neg hne]
   exact pre_vin hf hc hi hm h
 ·simp only [renE, List.mem_map] at hv
  obtain ⟨w, hw, rfl⟩ := hv
  exact pre_vin hf hc hi hm (h4 w hw)
theorem exAt_mono {l : List IOp} {es : List IEx} {tr : IEx → IEx} {i j : Nat} {x : Int} (h : exAt l es tr i x) (hij : i ≤ j) : exAt l es tr j x := by
 obtain ⟨h1, h2, h3⟩ := h
 have up : ∀ n, vin l i n → vin l j n := fun n ⟨a, b, c, d⟩ => ⟨a, by omega, c, d⟩
 exact ⟨h1, h2.imp id (up _), fun v hv => up _ (h3 v hv)⟩
theorem opR_takes {b : IBk} {k : Nat} (hk : b.opR k = true) {x : Int} (h : takes (b.ops.getD k IOp.zero) x) : b.exit x k = true := by
 rw [opR_eq b k rfl] at hk
 generalize b.ops.getD k IOp.zero = o at hk h
 by_cases c4 : o.code = 4
 ·rw [if_neg (by omega), if_neg (by omega), if_neg (by omega), if_pos c4] at hk
  simp only [Bool.and_eq_true] at hk
  rcases h with ⟨_, rfl⟩ | ⟨h, _⟩
  ·exact hk.2
  ·omega
 by_cases c5 : o.code = 5
 ·rw [if_neg (by omega), if_neg (by omega), if_neg (by omega), if_neg (by omega), if_pos c5] at hk
  simp only [Bool.and_eq_true] at hk
  rcases h with ⟨_, rfl⟩ | ⟨_, rfl⟩
  ·exact hk.1.2
  ·exact hk.2
 by_cases c6 : o.code = 6
 ·rw [if_neg (by omega), if_neg (by omega), if_neg (by omega), if_neg (by omega), if_neg (by omega), if_pos c6] at hk
  simp only [Bool.and_eq_true] at hk
  rcases h with ⟨_, rfl⟩ | ⟨h, _⟩
  ·exact hk.2
  ·omega
 ·have h4 : 4 ≤ o.code := by rcases h with ⟨h, _⟩ | ⟨h, _⟩ <;> omega
  rw [if_neg (by omega), if_neg (by omega), if_neg (by omega), if_neg c4, if_neg c5, if_neg c6] at hk
  cases hk
theorem leafK_ren {n : Nat} {e : IEx} (t : List Int) (h : leafK n e) : leafK n (renE t e) := by
 obtain ⟨h1, h2, h3, h4, h5, h6⟩ := h
 refine ⟨h1, h2, h3, h4, h5, fun k hk => ?_⟩
 have hk2 : k < e.map.length := by simpa [renE] using hk
 have ev : ∀ k, k < e.map.length → ((renE t e).vl k).reg = (e.vl k).reg := fun k hk => by simp [IEx.vl, renE, renV, hk]
 have := h6 k hk2
 rw [regN, ev _ hk2]
 by_cases h0 : k = 0
 ·subst h0; simpa [regN] using this
 ·rw [ev _ (by omega)]; exact this
theorem gd_check {b : IBk} (hc : b.check = 0) : b.gd.check = 0 := by
 obtain ⟨hp1, hp2, hp3, hp4, hp5⟩ := long_parts hc
 have hp := right_parts hc
 obtain ⟨m, hm, e1, e2⟩ := gScan_at b.ops b.last b.ops.length 0 (by omega)
 rw [List.drop_zero, List.take_zero] at e1 e2
 have e0 : psN gF [] = ⟨[], []⟩ := rfl
 rw [e0] at e1 e2
 unfold IBk.gd
 rw [e1]
 have hI := ps_inv gF_ok hc m hm
 have hlast : exAt (psN gF (b.ops.take m)).l b.exits (renE (psN gF (b.ops.take m)).to) (psN gF (b.ops.take m)).l.length (gScan b.last b.ops ⟨[], []⟩).2 := by
  rcases e2 with ⟨h1, h2⟩ | ⟨h1, h2, h3, h4⟩
  ·rw [h2]
   have := chk_right hc
   simp only [IBk.right, Bool.and_eq_true] at this
   exact pre_exAt gF_ok hc (Nat.le_refl m) hm (by rw [h1]; exact this.2)
  ·rw [h4]
   exact pre_exAt gF_ok hc (Nat.le_refl m) hm (opR_takes (hp.1 m h1) (.inl ⟨by omega, rfl⟩))
 have hll := psN_l gF (b.ops.take m)
 rw [List.length_take] at hll
 have hsrc := psN_src gF b.ops m hm
 have hx : ∀ j, j < (psN gF (b.ops.take m)).l.length → ∀ x, takes ((psN gF (b.ops.take m)).l.getD j IOp.zero) x → exAt (psN gF (b.ops.take m)).l b.exits (renE (psN gF (b.ops.take m)).to) j x := by
  intro j hj x ht
  obtain ⟨i, h1, h2, h3, h4⟩ := hsrc j hj
  have e3 : ∀ l o, (gF l o).2 = o := fun l o => by unfold gF; split <;> rfl
  rw [h4, e3] at ht
  unfold takes at ht
  rw [ren_code, (ren_xy _ _).1, (ren_xy _ _).2.1] at ht
  have := pre_exAt gF_ok hc (show i ≤ m by omega) hm (opR_takes (hp.1 i (by omega)) ht)
  rw [h2] at this
  exact this
 refine pr_check hp4 hp1 hp5 (by omega) hp3 hI.good (fun j hj => ?_) hx hlast (fun n hn hnm => ⟨leafK_ren _ (leafK_of (hp.2 n hn)), ?_⟩)
 ·obtain ⟨i, h1, h2, h3, h4⟩ := hsrc j hj
  have e3 : ∀ l o, (gF l o).2 = o := fun l o => by unfold gF; split <;> rfl
  rw [h4, e3, opK_ren]
  exact opK_of (hp.1 i (by omega))
 ·unfold namedX at hnm
  rw [Bool.or_eq_true, List.any_eq_true, decide_eq_true_eq] at hnm
  rcases hnm with h | ⟨o, h1, h2⟩
  ·rw [← h]; exact hlast
  ·simp only [Bool.or_eq_true, Bool.and_eq_true, decide_eq_true_eq] at h2
   obtain ⟨j, hj, rfl⟩ := List.getElem_of_mem h1
   have e4 : (psN gF (b.ops.take m)).l[j] = (psN gF (b.ops.take m)).l.getD j IOp.zero := by simp [hj]
   rw [e4] at h2
   exact exAt_mono (hx j hj n h2) (by omega)
end Go.Ab
end
section
namespace Go.Ab
open Go.Proofs
variable {G : Glo} {h : Heap}
theorem gtold_spec (c : Bool) : Spec Tryz.prog G 155 [.bool c] h (Is (.int .i64 (if c then 1 else 2)) h) := by
 refine Spec.is C155ok rfl ?_
 cases c <;>
 ·simp only [push_cast, simprocAttr]
  try rfl
theorem gother_spec (n : Int) : Spec Tryz.prog G 156 [.int .i64 n] h (Is (.int .i64 (otherN n)) h) := by
 unfold otherN
 refine Spec.is C156ok rfl ?_
 by_cases c : n = 5 ∨ n = 7 ∨ n = 9
 ·rcases c with rfl | rfl | rfl <;>
  ·simp only [push_cast, simprocAttr]
   try rfl
 ·by_cases c' : n = 6 ∨ n = 8 ∨ n = 10
  ·rcases c' with rfl | rfl | rfl <;>
   ·simp only [push_cast, simprocAttr]
    try rfl
  ·have d1 : ¬ n = 5 := by omega
   have d2 : ¬ n = 6 := by omega
   have d3 : ¬ n = 7 := by omega
   have d4 : ¬ n = 8 := by omega
   have d5 : ¬ n = 9 := by omega
   have d6 : ¬ n = 10 := by omega
   rw [if_neg c, if_neg c']
   simp only [push_cast, simprocAttr, d1, d2, d3, d4, d5, d6]
theorem gnames_spec {b5 : Nat} {c3v vt : AV} {h1 : Heap} {to : List Int} (hb : h b5 = some ⟨[c3v, vt], 0⟩) (ho : Own 1 h1 vt (to.map (.int .i64)) to.length h) (o : IOp) (hR : renOK to o) :
  Spec Tryz.prog G 136 [.ptr b5 0, .agg o.cells] h (Is (.agg (ren to o).cells) h) := by
 obtain ⟨hR1, hR2⟩ := hR
 refine Spec.is C136ok rfl ?_
 simp only [push_cast, simprocAttr]
 intro b3 hb3 b4 hb4
 have n34 := upd_none hb4
 have f1 : ¬ b4 = b3 := n34.1
 have f2 : ¬ b3 = b4 := fun e => f1 e.symm
 have f3 : ¬ b5 = b3 := fun e => by rw [← e, hb] at hb3; cases hb3
 have f4 : ¬ b5 = b4 := fun e => by rw [← e, upd_ne f3, hb] at hb4; cases hb4
 have hsub : ∀ X Y Z W, Sub h (Ab.upd (Ab.upd (Ab.upd (Ab.upd h b3 X) b4 Y) b3 Z) b4 W) := fun X Y Z W => sub_upd n34.2 (sub_upd hb3 (sub_upd n34.2 (sub_upd hb3 (.refl _))))
 have hsub2 : ∀ X Y W, Sub h (Ab.upd (Ab.upd (Ab.upd h b3 X) b4 Y) b4 W) := fun X Y W => sub_upd n34.2 (sub_upd n34.2 (sub_upd hb3 (.refl _)))
 unfold ren
 by_cases g3 : o.code = 3 ∨ o.code = 5 ∨ o.code = 6
 ·obtain ⟨⟨q1, q2⟩, q3, q4⟩ := hR1 g3
  obtain ⟨bt, pre, cap, sp, rfl, e2, e3, e4⟩ := own_lie ho (by omega)
  have f5 : ¬ bt = b3 := fun e => by rw [← e, e2] at hb3; cases hb3
  have f6 : ¬ bt = b4 := fun e => by rw [← e, upd_ne f5, e2] at hb4; cases hb4
  have q5 : o.a.toNat < to.length := by omega
  have q6 : o.b.toNat < to.length := by omega
  rw [if_pos g3]
  rcases g3 with g | g | g
  ·simp (disch := omega) only [push_cast, simprocAttr, wrap_i64, toNat_ofInt64, Nat.min_eq_left, Int.toNat_of_nonneg, upd_at, f1, f2, f3, f4, f5, f6, hb, e2, q1, q2, q3, q4, q5, q6, g]
   exact hsub _ _ _ _
  ·simp (disch := omega) only [push_cast, simprocAttr, wrap_i64, toNat_ofInt64, Nat.min_eq_left, Int.toNat_of_nonneg, upd_at, f1, f2, f3, f4, f5, f6, hb, e2, q1, q2, q3, q4, q5, q6, g]
   exact hsub _ _ _ _
  ·simp (disch := omega) only [push_cast, simprocAttr, wrap_i64, toNat_ofInt64, Nat.min_eq_left, Int.toNat_of_nonneg, upd_at, f1, f2, f3, f4, f5, f6, hb, e2, q1, q2, q3, q4, q5, q6, g]
   exact hsub _ _ _ _
 ·rw [if_neg g3]
  by_cases g4 : o.code = 4
  ·obtain ⟨q1, q2⟩ := hR2 g4
   obtain ⟨bt, pre, cap, sp, rfl, e2, e3, e4⟩ := own_lie ho (by omega)
   have f5 : ¬ bt = b3 := fun e => by rw [← e, e2] at hb3; cases hb3
   have f6 : ¬ bt = b4 := fun e => by rw [← e, upd_ne f5, e2] at hb4; cases hb4
   have q5 : o.a.toNat < to.length := by omega
   rw [if_pos g4]
   simp (disch := omega) only [push_cast, simprocAttr, wrap_i64, toNat_ofInt64, Nat.min_eq_left, Int.toNat_of_nonneg, upd_at, f1, f2, f3, f4, f5, f6, hb, e2, q1, q2, q5, g4]
   exact hsub _ _ _ _
  ·rw [if_neg g4]
   have g5 : ¬ o.code = 3 := by omega
   have g6 : ¬ o.code = 5 := by omega
   have g7 : ¬ o.code = 6 := by omega
   simp (disch := omega) only [push_cast, simprocAttr, wrap_i64, toNat_ofInt64, Nat.min_eq_left, Int.toNat_of_nonneg, upd_at, f1, f2, f3, f4, hb, g4, g5, g6, g7]
   exact sub_upd n34.2 (sub_upd hb3 (.refl _))
theorem scanG_drop (l : List IOp) (o : IOp) (k : Nat) (hk : k < l.length) : scanG (l.drop k) o = if (l.getD k IOp.zero).code = 6 ∧ (l.getD k IOp.zero).a = o.a ∧ (l.getD k IOp.zero).b = o.b then (if ((l.getD k IOp.zero).imm.toNat : Int) = o.imm.toNat then 1 else if ((l.getD k IOp.zero).imm.toNat : Int) = otherN o.imm.toNat then 2 else scanG (l.drop (k + 1)) o) else scanG (l.drop (k + 1)) o := by
 have hdr : l.drop k = l.getD k IOp.zero :: l.drop (k + 1) := by
  rw [List.drop_eq_getElem_cons hk]; congr 1; simp [hk]
 rw [hdr, scanG]
theorem gknown_spec (l : List IOp) (to : List Int) (o : IOp) (hl : l.length ≤ 1000000000000) (hn : 5 ≤ (o.imm.toNat : Int) ∧ (o.imm.toNat : Int) ≤ 10) (ha : 0 ≤ o.a ∧ o.a < l.length) (hb : 0 ≤ o.b ∧ o.b < l.length) :
  Spec Tryz.prog G 137 [psV l to [], .agg o.cells] h (Is (.int .i64 (gk l o)) h) := by
 have a1 : o.a.toNat < l.length := by omega
 have b1 : o.b.toNat < l.length := by omega
 obtain ⟨a2, a3⟩ := ha
 obtain ⟨b2, b3⟩ := hb
 have hw : IntKind.i64.wrap (o.imm.toNat : Int) = o.imm.toNat := wrap_i64 (by omega) (by omega)
 have hgk : gk l o = if (l.getD o.a.toNat IOp.zero).code = 2 ∧ (l.getD o.b.toNat IOp.zero).code = 2 then (if takenN o.imm.toNat (l.getD o.a.toNat IOp.zero).imm (l.getD o.b.toNat IOp.zero).imm then 1 else 2)
   else if o.a = o.b then (if (o.imm.toNat : Int) = 5 ∨ (o.imm.toNat : Int) = 8 ∨ (o.imm.toNat : Int) = 10 then 1 else 2) else scanG l o := rfl
 have hself := taken_self hn 0#32
 refine Spec.is C137ok rfl ?_
 have fin : ∀ c d H, c ≠ d → H c = some ⟨(l.getD o.a.toNat IOp.zero).cells, 0⟩ → H d = some ⟨(l.getD o.b.toNat IOp.zero).cells, 0⟩ → Sub h H → wpc Tryz.prog G Tryz.f137.ntmps C137_53 (retQ C137r (IsS (.int .i64 (gk l o)) h)) [(0, psV l to []), (3, .cp o.cells 0), (5, .ptr c 0), (6, .ptr d 0)] H := by
  intro c d H hcd hc hd hs
  generalize l.getD o.a.toNat IOp.zero = x at *
  generalize l.getD o.b.toNat IOp.zero = y at *
  have k1 := Taken_spec (G := G) (h := H) (o.imm.toNat : Int) x.imm y.imm hn
  have k2 := Taken_spec (G := G) (h := H) (o.imm.toNat : Int) 0#32 0#32 hn
  have z0 : ((0#32 : BitVec 32).toNat : Int) = 0 := rfl
  rw [z0] at k2
  have tl := gtold_spec (G := G) (h := H)
  have kO := gother_spec (G := G) (h := H) (o.imm.toNat : Int)
  have mid : ¬ (x.code = 2 ∧ y.code = 2) → wpc Tryz.prog G Tryz.f137.ntmps C137_51 (retQ C137r (IsS (.int .i64 (gk l o)) h)) [(0, psV l to []), (3, .cp o.cells 0), (7, .int .i64 (o.imm.toNat : Int))] H := by
   intro hne
   rw [if_neg hne] at hgk
   by_cases eab : o.a = o.b
   ·rw [if_pos eab] at hgk
    simp only [push_cast, simprocAttr, eab]
    refine k2.to ?_
    simp only [push_cast, simprocAttr]
    refine (tl _).to ?_
    simp only [push_cast, simprocAttr]
    refine ⟨?_, hs⟩
    rw [hgk, hself]
    simp only [decide_eq_true_eq]
   ·rw [if_neg eab] at hgk
    simp only [push_cast, simprocAttr, eab]
    refine lpc.rel [3, 7, 76, 77, 78] (fun m ρ h' => ∃ i : Nat, m = l.length - i ∧ i ≤ l.length ∧ gk l o = scanG (l.drop i) o ∧ h' = H ∧
     ρ = [(3, .cp o.cells 0), (7, .int .i64 (o.imm.toNat : Int)), (76, ops l), (77, .int .i64 (l.length : Int)), (78, .int .i64 (i : Int))]) ⟨_, 0, rfl, by omega, hgk, rfl, rfl⟩ ?_
    rintro m _ H' ⟨i, rfl, hi, hg, hH, rfl⟩
    subst hH
    by_cases hi2 : i < l.length
    ·rw [scanG_drop l o i hi2] at hg
     simp only [push_cast, simprocAttr, hi2]
     intro c' hc'
     rw [era_none hc']
     generalize l.getD i IOp.zero = z at *
     have hzw : IntKind.i64.wrap (z.imm.toNat : Int) = z.imm.toNat := wrap_i64 (by omega) (by omega)
     have e2 : (z.a == o.a) = decide (z.a = o.a) := rfl
     by_cases d1 : z.code = 6
     ·by_cases d2 : z.a = o.a
      ·by_cases d3 : z.b = o.b
       ·rw [if_pos ⟨d1, d2, d3⟩] at hg
        by_cases d4 : z.imm = o.imm
        ·rw [if_pos (by rw [d4])] at hg
         simp only [push_cast, simprocAttr, d1, d2, d3, d4, hzw, hw, or_self, or_false, false_or, or_true, true_or, false_imp_iff, true_imp_iff, true_and, and_true, not_true_eq_false, not_false_eq_true]
         exact ⟨by rw [hg], hs⟩
        ·rw [if_neg (fun e => d4 (BitVec.eq_of_toNat_eq (by omega)))] at hg
         simp only [push_cast, simprocAttr, d1, d2, d3, d4, hzw, or_self, or_false, false_or, or_true, true_or, false_imp_iff, true_imp_iff, true_and, and_true, not_true_eq_false, not_false_eq_true]
         refine kO.to ?_
         by_cases d5 : (z.imm.toNat : Int) = otherN o.imm.toNat
         ·rw [if_pos d5] at hg
          simp only [push_cast, simprocAttr, d5, or_self, or_false, false_or, or_true, true_or, false_imp_iff, true_imp_iff, true_and, and_true, not_true_eq_false, not_false_eq_true]
          exact ⟨by rw [hg], hs⟩
         ·rw [if_neg d5] at hg
          simp (disch := omega) only [push_cast, simprocAttr, wrap_i64, toNat_ofInt64, Nat.min_eq_left, Int.toNat_of_nonneg, d5, or_self, or_false, false_or, or_true, true_or, false_imp_iff, true_imp_iff, true_and, and_true, not_true_eq_false, not_false_eq_true]
          exact ⟨_, _, by omega, .refl _, i + 1, rfl, by omega, hg, rfl, rfl⟩
       ·rw [if_neg (fun c => d3 c.2.2)] at hg
        simp (disch := omega) only [push_cast, simprocAttr, wrap_i64, toNat_ofInt64, Nat.min_eq_left, Int.toNat_of_nonneg, d1, d2, d3, or_self, or_false, false_or, or_true, true_or, false_imp_iff, true_imp_iff, true_and, and_true, not_true_eq_false, not_false_eq_true]
        exact ⟨_, _, by omega, .refl _, i + 1, rfl, by omega, hg, rfl, rfl⟩
      ·rw [if_neg (fun c => d2 c.2.1)] at hg
       simp (disch := omega) only [push_cast, simprocAttr, wrap_i64, toNat_ofInt64, Nat.min_eq_left, Int.toNat_of_nonneg, d1, d2, or_self, or_false, false_or, or_true, true_or, false_imp_iff, true_imp_iff, true_and, and_true, not_true_eq_false, not_false_eq_true]
       exact ⟨_, _, by omega, .refl _, i + 1, rfl, by omega, hg, rfl, rfl⟩
     ·rw [if_neg (fun c => d1 c.1)] at hg
      simp (disch := omega) only [push_cast, simprocAttr, wrap_i64, toNat_ofInt64, Nat.min_eq_left, Int.toNat_of_nonneg, d1, or_self, or_false, false_or, or_true, true_or, false_imp_iff, true_imp_iff, true_and, and_true, not_true_eq_false, not_false_eq_true]
      exact ⟨_, _, by omega, .refl _, i + 1, rfl, by omega, hg, rfl, rfl⟩
    ·obtain rfl : i = l.length := by omega
     rw [List.drop_length, scanG] at hg
     simp only [push_cast, simprocAttr, hi2]
     exact ⟨by rw [hg], hs⟩
  show wpc _ _ _ (.seq [0, 3, 5, 6, 7] C137_2 (.seq [0, 3, 7] C137_9 C137_51)) _ _ _
  generalize C137_51 = Z at mid ⊢
  by_cases cx : x.code = 2
  ·by_cases cy : y.code = 2
   ·rw [if_pos ⟨cx, cy⟩] at hgk
    simp only [push_cast, simprocAttr, hc, hd, cx, cy, hw]
    refine k1.to ?_
    simp only [push_cast, simprocAttr]
    refine (tl _).to ?_
    simp only [push_cast, simprocAttr]
    exact ⟨by rw [hgk], hs⟩
   ·simp only [push_cast, simprocAttr, hc, hd, cx, cy, hw]
    exact mid fun e => cy e.2
  ·simp only [push_cast, simprocAttr, hc, hd, cx, hw]
   exact fun _ => mid fun e => cx e.1
 show wpc _ _ _ (.seq [0, 3] C137_0 (.seq [0, 3, 5, 6] C137_1 C137_53)) _ _ _
 generalize C137_53 = Y at fin ⊢
 simp only [push_cast, simprocAttr, a1, a2, a3, b1, b2, b3]
 refine ⟨fun b hb b' hb' => ?_, fun b hb b' hb' => ?_⟩
 ·have n := upd_none hb'
  have n1 : ¬ b = b' := fun e => n.1 e.symm
  have n2 : ¬ b' = b := n.1
  simp only [push_cast, simprocAttr, upd_at, n1, n2, b1, b2, b3]
  exact fin _ _ _ n1 (by rw [upd_ne n1, upd_same]) (upd_same _ _ _) (sub_upd n.2 (sub_upd hb (sub_upd n.2 (sub_upd hb (.refl _)))))
 ·have n := upd_none hb'
  have n1 : ¬ b = b' := fun e => n.1 e.symm
  have n2 : ¬ b' = b := n.1
  simp only [push_cast, simprocAttr, upd_at, n1, n2, a1, a2, a3]
  exact fin _ _ _ n2 (by rw [upd_ne n2, upd_same]) (upd_same _ _ _) (sub_upd hb (sub_upd n.2 (sub_upd hb (.refl _))))
end Go.Ab
end
section
namespace Go.Ab
open Go.Proofs
variable {G : Glo} {h : Heap}
section
variable {g : Heap} {b5 c3 : Nat} {p vx last vt : AV} {l : List IOp} {to : List Int} {rest : List AV}
theorem PsO.get (hr : PsO g b5 c3 p vx last l vt to rest h) {d : Nat} {y : Blk} (hd : g d = some y) (n5 : d ≠ b5) (n3 : d ≠ c3) : h d = some y := by
 obtain ⟨hn, vo, h1, o1, o2⟩ := hr
 exact o2.get (o1.get (by rw [upd_ne n5, upd_ne n3]; exact hd))
theorem PsO.putO (hr : PsO g b5 c3 p vx last l vt to rest h) : ∃ vo h2, h b5 = some ⟨.ptr c3 0 :: vt :: rest, 0⟩ ∧ h c3 = some ⟨[p, vo, vx, last], 0⟩ ∧ alen vo = some l.length ∧ Own 6 h2 vo (l.flatMap IOp.cells) l.length h ∧
  ∀ v5 l' h5, Own 6 h2 v5 (l'.flatMap IOp.cells) l'.length h5 → h5 b5 = some ⟨.ptr c3 0 :: vt :: rest, 0⟩ ∧ h5 c3 = some ⟨[p, vo, vx, last], 0⟩ ∧ (∀ d y, g d = some y → d ≠ b5 → d ≠ c3 → h5 d = some y) ∧ PsO g b5 c3 p vx last l' vt to rest (Ab.upd h5 c3 ⟨[p, v5, vx, last], 0⟩) := by
 obtain ⟨hn, vo, h1, o1, o2⟩ := hr
 obtain ⟨h2, o3, o4⟩ := own_swap o1 o2
 have kb5 := upd_same (Ab.upd g c3 ⟨[p, vo, vx, last], 0⟩) b5 ⟨.ptr c3 0 :: vt :: rest, 0⟩
 have kc3 : Ab.upd (Ab.upd g c3 ⟨[p, vo, vx, last], 0⟩) b5 ⟨.ptr c3 0 :: vt :: rest, 0⟩ c3 = some ⟨[p, vo, vx, last], 0⟩ := by rw [upd_ne (Ne.symm hn)]; exact upd_same _ _ _
 exact ⟨vo, h2, o4.get (o3.get kb5), o4.get (o3.get kc3), o4.alen, o4, fun v5 l' h5 o5 => ⟨o5.get (o3.get kb5), o5.get (o3.get kc3), fun d y hd n5 n3 => o5.get (o3.get (by rw [upd_ne n5, upd_ne n3]; exact hd)), PsO.made hn o3 o5⟩⟩
end
def AgV (b : IBk) (k : Nat) (to to' : List Int) : Prop := to'.length = k ∧ ∀ i, i < k → valued (b.ops.getD i IOp.zero) → to'.getD i 0 = to.getD i 0
theorem AgV.at {b : IBk} {k : Nat} {to to' : List Int} (ha : AgV b k to to') {j : Nat} (hj : j ≤ k) {n : Int} (h : vin b.ops j n) : to'.getD n.toNat 0 = to.getD n.toNat 0 := by
 obtain ⟨h1, h2, h3, h4⟩ := h
 exact ha.2 n.toNat (by omega) h4
theorem AgV.ren {b : IBk} {k : Nat} {to to' : List Int} (ha : AgV b k to to') {o : IOp} (ho : goodAt b.ops k o) : ren to' o = ren to o := by
 unfold Ab.ren
 by_cases c : o.code = 3 ∨ o.code = 5 ∨ o.code = 6
 ·rw [if_pos c, if_pos c, ha.at (Nat.le_refl _) (ho.1 c).1, ha.at (Nat.le_refl _) (ho.1 c).2]
 ·rw [if_neg c, if_neg c]
  by_cases c4 : o.code = 4
  ·rw [if_pos c4, if_pos c4, ha.at (Nat.le_refl _) (ho.2 c4)]
  ·rw [if_neg c4, if_neg c4]
theorem AgV.snoc {b : IBk} {k : Nat} {to to' : List Int} (hl : to.length = k) (ha : AgV b k to to') {x y : Int} (h : valued (b.ops.getD k IOp.zero) → y = x) : AgV b (k + 1) (to ++ [x]) (to' ++ [y]) := by
 refine ⟨by simp [ha.1], fun i hi hv => ?_⟩
 by_cases e : i = k
 ·subst e
  rw [getD_eq ha.1.symm, getD_eq hl.symm, h hv]
 ·rw [getD_lt (by rw [ha.1]; omega), getD_lt (by omega)]
  exact ha.2 i (by omega) hv
theorem gput_spec {g : Heap} {b5 c3 c' : Nat} {p vx last vt v16 : AV} {n5 n17 n18 : Int} {l : List IOp} {to : List Int} {o : IOp} {Q : Exit → Env → Heap → Prop} (hr : PsO g b5 c3 p vx last l vt to [] h) (hg : g c' = some ⟨o.cells, 0⟩) (m5 : c' ≠ b5) (m3 : c' ≠ c3) (hl : l.length + 1 ≤ 1000000000000) (ht : to.length + 1 ≤ 1000000000000)
  (hq : ∀ ρ vt' H', lk ρ 0 = .ptr b5 0 → lk ρ 5 = .int .i64 n5 → lk ρ 16 = v16 → lk ρ 17 = .int .i64 n17 → lk ρ 18 = .int .i64 n18 → PsO g b5 c3 p vx last (l ++ [o]) vt' (to ++ [(l.length : Int)]) [] H' → Q .normal ρ H') :
  wpc Tryz.prog G Tryz.f107.ntmps C107_27 Q [(0, .ptr b5 0), (5, .int .i64 n5), (7, .ptr c' 0), (16, v16), (17, .int .i64 n17), (18, .int .i64 n18)] h := by
 obtain ⟨vo, _, hb5, hc3, hal, _, _⟩ := hr.putO
 obtain ⟨_, h1, o1, tell⟩ := hr.tell
 simp only [push_cast, simprocAttr, hb5, hc3, hal]
 refine Own.app o1 (m := 1) rfl (by omega) (by omega) fun v3 h7 o7 => ?_
 obtain ⟨hb7, hr7⟩ := tell v3 (to ++ [(l.length : Int)]) [] h7 (by simpa using o7)
 have hone := o7.one
 simp only [push_cast, simprocAttr, hb7, hone]
 obtain ⟨vo2, _, kb5, kc3, kal, o2, put⟩ := hr7.putO
 have kc := hr7.get hg m5 m3
 simp only [push_cast, simprocAttr, kb5, kc3, kc]
 refine Own.app o2 (m := 1) (IOp.len _) (by omega) (by omega) fun v5 h5 o5 => ?_
 obtain ⟨jb5, jc3, jg, hr5⟩ := put v5 (l ++ [o]) h5 (by simpa using o5)
 have hone5 := o5.one
 have jc := jg c' _ hg m5 m3
 simp only [push_cast, simprocAttr, jb5, jc3, jc, hone5]
 exact hq _ _ _ rfl rfl rfl rfl rfl hr5
theorem gthrough_spec {g0 : Heap} {b5 c3 : Nat} {p vx last : AV} (b : IBk) (hw : b.wf) (hc : b.check = 0) (hr : PsO g0 b5 c3 p vx last [] .nils [] [] h) :
  Spec Tryz.prog G 107 [.ptr b5 0, bkP b] h (fun r h' => r = .int .i64 (gScan b.last b.ops ⟨[], []⟩).2 ∧ ∃ m vt toR g', m ≤ b.ops.length ∧ Sub g0 g' ∧ g' b5 = g0 b5 ∧ g' c3 = g0 c3 ∧ (gScan b.last b.ops ⟨[], []⟩).1 = psN gF (b.ops.take m) ∧ AgV b m (psN gF (b.ops.take m)).to toR ∧
   PsO g' b5 c3 p vx last (psN gF (b.ops.take m)).l vt toR [] h') := by
 obtain ⟨hops, hexs⟩ := right_parts hc
 obtain ⟨hs1, hs2, hs3⟩ := hw.hs
 refine Spec.walk C107ok rfl ?_
 simp only [push_cast, simprocAttr]
 refine lpc.rel [0, 5, 16, 17, 18] (fun m ρ h' => ∃ (k : Nat) (vt : AV) (toR : List Int) (g' : Heap), m = b.ops.length - k ∧ k ≤ b.ops.length ∧ Sub g0 g' ∧ g' b5 = g0 b5 ∧ g' c3 = g0 c3 ∧ gScan b.last b.ops ⟨[], []⟩ = gScan b.last (b.ops.drop k) (psN gF (b.ops.take k)) ∧ AgV b k (psN gF (b.ops.take k)).to toR ∧
   PsO g' b5 c3 p vx last (psN gF (b.ops.take k)).l vt toR [] h' ∧ ρ = [(0, .ptr b5 0), (5, .int .i64 b.last), (16, ops b.ops), (17, .int .i64 (b.ops.length : Int)), (18, .int .i64 (k : Int))]) ⟨_, 0, .nils, [], g0, rfl, by omega, .refl _, rfl, rfl, rfl, ⟨rfl, fun i hi => by omega⟩, hr, rfl⟩ ?_
 rintro m _ h2 ⟨k, vt, toR, g', rfl, hk, hs, he5, he3, hsc, hag, hr, rfl⟩
 by_cases hk2 : k < b.ops.length
 ·have hdr : b.ops.drop k = b.ops.getD k IOp.zero :: b.ops.drop (k + 1) := by
   rw [List.drop_eq_getElem_cons hk2]; congr 1; simp [hk2]
  rw [hdr, gScan] at hsc
  have hst := psstep_eq gF (psN gF (b.ops.take k)) (b.ops.getD k IOp.zero)
  rw [← psN_succ gF b.ops k hk2] at hst
  rw [← psN_succ gF b.ops k hk2] at hsc
  have htl : (psN gF (b.ops.take k)).to.length = k := by rw [psN_to, List.length_take]; omega
  have hll := psN_l gF (b.ops.take k)
  rw [List.length_take] at hll
  have hgo := good_of (hops k hk2)
  have hok := renOK_of (hops k hk2) hag.1
  have hi := psren_good (ps_inv gF_ok hc k (by omega)) hgo
  have hkd := kind_of (hops k hk2)
  have hren := hag.ren hgo
  rw [← kind_ren (psN gF (b.ops.take k)).to] at hkd
  have hcode := ren_code (psN gF (b.ops.take k)).to (b.ops.getD k IOp.zero)
  generalize hS : psN gF (b.ops.take k) = s at *
  generalize hS1 : psN gF (b.ops.take (k + 1)) = s1 at *
  generalize hO : b.ops.getD k IOp.zero = o at *
  have gfe : gF s.l (ren s.to o) = if (ren s.to o).code = 6 ∧ gk s.l (ren s.to o) = 1 then ((s.l.length : Int), ren s.to o) else (-1, ren s.to o) := rfl
  have hP := fun (c' : Nat) (g : Heap) (o1 : IOp) (Q : Exit → Env → Heap → Prop) (H : Heap) hu hg m5 m3 => gput_spec (G := G) (c' := c') (g := g) (o := o1) (h := H) (b5 := b5) (c3 := c3) (p := p) (vx := vx) (last := last) (vt := vt) (l := s.l) (to := toR) (n5 := b.last) (v16 := ops b.ops) (n17 := b.ops.length) (n18 := k) (Q := Q) hu hg m5 m3 (by omega) (by have := hag.1; omega)
  show wpc _ _ _ (.seq [0, 5, 16, 17, 18, 19] C107_3 (.seq [0, 5, 16, 17, 18] C107_4 (.seq [0, 5, 16, 17, 18] (.block 1 (.seq [0, 5, 7, 16, 17, 18] C107_5 (.seq [0, 5, 7, 16, 17, 18] C107_6 (.seq [0, 5, 7, 8, 16, 17, 18] C107_7 (.seq [0, 5, 7, 8, 16, 17, 18] C107_11 (.seq [0, 5, 7, 16, 17, 18] C107_24 C107_27)))))) C107_34))) _ _ _
  generalize C107_27 = Z at hP ⊢
  simp only [push_cast, simprocAttr, hk2, hO]
  intro c' hc'
  have hcc := upd_same h2 c' ⟨o.cells, 0⟩
  obtain ⟨hu1, n5, n3, hg'⟩ := hr.upd (x := ⟨o.cells, 0⟩) hc'
  obtain ⟨hb51, _, ot, _⟩ := hu1.tell
  have kN := gnames_spec (G := G) hb51 ot o hok
  rw [hren] at kN
  obtain ⟨hu, _, _, _⟩ := hr.upd (x := ⟨(ren s.to o).cells, 0⟩) hc'
  have hcn := upd_same h2 c' ⟨(ren s.to o).cells, 0⟩
  generalize ren s.to o = o1 at *
  have h6r : o1.code = 6 → goodAt s.l s.l.length o1 := fun _ => hi
  have kK := fun e6 : o1.code = 6 => borrow_is (gknown_spec (G := G) (h := noH) s.l toR o1 (by omega) (kind_guard e6 hkd) ⟨(hi.1 (.inr (.inr e6))).1.1, (hi.1 (.inr (.inr e6))).1.2.2.1⟩ ⟨(hi.1 (.inr (.inr e6))).2.1, (hi.1 (.inr (.inr e6))).2.2.2.1⟩) (.cons hu.arg (.cons (.same (Ab.upd h2 c' ⟨o1.cells, 0⟩) _) .nil)) rfl
  have hlen := hag.1
  have hP := fun Q => hP c' _ o1 Q _ hu (upd_same g' c' _) n5 n3
  refine kN.to ?_
  have dP : ¬ (o1.code = 6 ∧ gk s.l o1 = 2) → ¬ (o1.code = 6 ∧ gk s.l o1 = 1) → ∀ vt' H', PsO (Ab.upd g' c' ⟨o1.cells, 0⟩) b5 c3 p vx last (s.l ++ [o1]) vt' (toR ++ [(s.l.length : Int)]) [] H' →
    lpN [0, 5, 16, 17, 18] (fun m ρ h' => ∃ (k : Nat) (vt : AV) (toR : List Int) (g' : Heap), m = b.ops.length - k ∧ k ≤ b.ops.length ∧ Sub g0 g' ∧ g' b5 = g0 b5 ∧ g' c3 = g0 c3 ∧ gScan b.last b.ops ⟨[], []⟩ = gScan b.last (b.ops.drop k) (psN gF (b.ops.take k)) ∧ AgV b k (psN gF (b.ops.take k)).to toR ∧
   PsO g' b5 c3 p vx last (psN gF (b.ops.take k)).l vt toR [] h' ∧ ρ = [(0, .ptr b5 0), (5, .int .i64 b.last), (16, ops b.ops), (17, .int .i64 (b.ops.length : Int)), (18, .int .i64 (k : Int))]) (b.ops.length - k) [(0, .ptr b5 0), (5, .int .i64 b.last), (16, ops b.ops), (17, .int .i64 (b.ops.length : Int)), (18, .int .i64 ((k : Int) + 1))] H' := by
   intro c2 c1 vt' H' hP'
   rw [if_neg c2] at hsc
   rw [if_neg c1] at gfe
   rw [gfe] at hst
   refine ⟨_, _, by omega, .refl _, k + 1, vt', toR ++ [(s.l.length : Int)], Ab.upd g' c' ⟨o1.cells, 0⟩, rfl, by omega, sub_upd (hs.none hg') hs, by rw [upd_ne (Ne.symm n5)]; exact he5, by rw [upd_ne (Ne.symm n3)]; exact he3, ?_, ?_, ?_, rfl⟩
   ·rw [hS1]; exact hsc
   ·rw [hS1, hst]; exact hag.snoc htl fun _ => by simp
   ·rw [hS1, hst]; simpa using hP'
  by_cases e6 : o1.code = 6
  ·have kK := kK e6
   simp only [push_cast, simprocAttr, hcc, hcn, e6]
   refine kK.to ?_
   by_cases c2 : gk s.l o1 = 2
   ·rw [if_pos ⟨e6, c2⟩] at hsc
    simp only [push_cast, simprocAttr, hcn, c2]
    rw [hsc]
    refine ⟨rfl, k, vt, toR, Ab.upd g' c' ⟨o1.cells, 0⟩, by omega, sub_upd (hs.none hg') hs, by rw [upd_ne (Ne.symm n5)]; exact he5, by rw [upd_ne (Ne.symm n3)]; exact he3, hS.symm, by rw [hS]; exact hag, by rw [hS]; exact hu⟩
   ·by_cases c1 : gk s.l o1 = 1
    ·rw [if_neg (fun e => c2 e.2)] at hsc
     rw [if_pos ⟨e6, c1⟩] at gfe
     rw [gfe] at hst
     obtain ⟨hb52, _, ot2, tell⟩ := hu.tell
     simp only [push_cast, simprocAttr, hcn, c1, hb52]
     refine Own.app ot2 (m := 1) rfl (by omega) (by omega) fun v3 h7 o7 => ?_
     obtain ⟨hb7, hr7⟩ := tell v3 (toR ++ [-1]) [] h7 (by simpa using o7)
     simp (disch := omega) only [push_cast, simprocAttr, wrap_i64, toNat_ofInt64, Nat.min_eq_left, Int.toNat_of_nonneg, hb7, o7.one]
     refine ⟨_, _, by omega, .refl _, k + 1, v3, toR ++ [-1], Ab.upd g' c' ⟨o1.cells, 0⟩, rfl, by omega, sub_upd (hs.none hg') hs, by rw [upd_ne (Ne.symm n5)]; exact he5, by rw [upd_ne (Ne.symm n3)]; exact he3, ?_, ?_, ?_, rfl⟩
     ·rw [hS1]; exact hsc
     ·rw [hS1, hst]
      refine hag.snoc htl fun hv => ?_
      rw [hO] at hv
      have := hv.2
      omega
     ·rw [hS1, hst]; simpa using hr7
    ·simp only [push_cast, simprocAttr, c1, c2]
     refine hP _ fun ρ vt' H' e0 e5 e16 e17 e18 hP' => ?_
     simp (disch := omega) only [push_cast, simprocAttr, wrap_i64, toNat_ofInt64, Nat.min_eq_left, Int.toNat_of_nonneg, e0, e5, e16, e17, e18]
     exact dP (fun e => c2 e.2) (fun e => c1 e.2) _ _ hP'
  ·simp only [push_cast, simprocAttr, hcc, hcn, e6]
   refine hP _ fun ρ vt' H' e0 e5 e16 e17 e18 hP' => ?_
   simp (disch := omega) only [push_cast, simprocAttr, wrap_i64, toNat_ofInt64, Nat.min_eq_left, Int.toNat_of_nonneg, e0, e5, e16, e17, e18]
   exact dP (fun e => e6 e.1) (fun e => e6 e.1) _ _ hP'
 ·obtain rfl : k = b.ops.length := by omega
  rw [List.drop_length, gScan] at hsc
  simp only [push_cast, simprocAttr, hk2]
  rw [hsc]
  exact ⟨rfl, _, vt, toR, g', Nat.le_refl _, hs, he5, he3, rfl, hag, hr⟩
end Go.Ab
end
section
namespace Go.Ab
open Go.Proofs
variable {G : Glo} {h : Heap}
theorem Rows.up {sz s2 n : Nat} {g h1 : Heap} {ws : List AV} {ms : List (List AV × Nat)} {v : AV} {c : List AV} (hr : Rows sz g ws ms h1) : ∀ (h : Heap), Own s2 h1 v c n h → ∃ h2, Own s2 g v c n h2 ∧ Rows sz h2 ws ms h := by
 induction hr with
 | nil => intro h ho; exact ⟨_, ho, .nil⟩
 | snoc hr ho ih =>
  intro h o
  obtain ⟨h3, o3, o4⟩ := own_swap ho o
  obtain ⟨h4, o5, o6⟩ := ih _ o3
  exact ⟨h4, o5, .snoc o6 o4⟩
theorem Rows.dn {sz s2 n : Nat} {g h1 h : Heap} {ws : List AV} {ms : List (List AV × Nat)} {v : AV} {c : List AV} (ho : Own s2 g v c n h1) (hr : Rows sz h1 ws ms h) : ∃ h2, Rows sz g ws ms h2 ∧ Own s2 h2 v c n h := by
 induction hr with
 | nil => exact ⟨g, .nil, ho⟩
 | snoc hr o ih =>
  obtain ⟨h3, r3, o3⟩ := ih
  obtain ⟨h4, o4, o5⟩ := own_swap o3 o
  exact ⟨h4, .snoc r3 o4, o5⟩
theorem rowOf_snoc (es : List IEx) : ∀ (ws : List AV) (e : IEx) (w : AV), ws.length = es.length → rowOf (es ++ [e]) (ws ++ [w]) = rowOf es ws ++ exC e w := by
 induction es with
 | nil =>
  intro ws e w hl
  have : ws = [] := List.eq_nil_of_length_eq_zero (by simpa using hl)
  subst this
  simp [rowOf]
 | cons a es ih =>
  intro ws e w hl
  match ws, hl with
  | x :: ws, hl =>
   simp only [List.cons_append, rowOf]
   rw [ih ws e w (by simpa using hl), List.append_assoc]
theorem ExO.snoc {g : Heap} {vx w : AV} {es : List IEx} {e : IEx} {h1 : Heap} (hx : ExO g vx es h1) (ho : Own 2 h1 w (e.map.flatMap IVl.cells) e.map.length h) : ∃ g1 cs, Own 5 g1 vx cs es.length h ∧ ∀ v5 h5, Own 5 g1 v5 (cs ++ exC e w) (es.length + 1) h5 → ExO g v5 (es ++ [e]) h5 := by
 obtain ⟨h0, ws, o, r⟩ := hx
 have hwl : ws.length = es.length := by have := r.len; simpa using this
 obtain ⟨g1, r1, o1⟩ := Rows.dn o (.snoc r ho)
 refine ⟨g1, rowOf es ws, o1, fun v5 h5 o5 => ?_⟩
 obtain ⟨h6, o6, r6⟩ := Rows.up r1 _ o5
 refine ⟨h6, ws ++ [w], ?_, ?_⟩
 ·rw [rowOf_snoc _ _ _ _ hwl, List.length_append]; exact o6
 ·rw [List.map_append]; exact r6
theorem ExO.alen {g : Heap} {vx : AV} {es : List IEx} (hx : ExO g vx es h) : Ab.alen vx = some es.length := by
 obtain ⟨h0, ws, o, r⟩ := hx
 exact o.alen
def GX (g : Heap) (b5 c3 : Nat) (p : AV) (to : List Int) (l : List IOp) (vk : AV) (kept : List Int) (vx : AV) (es : List IEx) (last : Int) (h : Heap) : Prop :=
 b5 ≠ c3 ∧ ∃ vo h1 h2, Own 6 (Ab.upd (Ab.upd g c3 ⟨[p, vo, vx, .int .i64 last], 0⟩) b5 ⟨[.ptr c3 0, .ro (to.map (.int .i64)) to.length], 0⟩) vo (l.flatMap IOp.cells) l.length h1 ∧
  Own 1 h1 vk (kept.map (.int .i64)) kept.length h2 ∧ ExO h2 vx es h
section
variable {g : Heap} {b5 c3 : Nat} {p vk vx : AV} {to kept : List Int} {l : List IOp} {es : List IEx} {last : Int}
theorem GX.at (hr : GX g b5 c3 p to l vk kept vx es last h) : ∃ vo, h b5 = some ⟨[.ptr c3 0, .ro (to.map (.int .i64)) to.length], 0⟩ ∧ h c3 = some ⟨[p, vo, vx, .int .i64 last], 0⟩ ∧ alen vo = some l.length ∧ alen vx = some es.length := by
 obtain ⟨hn, vo, h1, h2, o1, o2, x⟩ := hr
 exact ⟨vo, x.sub _ _ (o2.get (o1.get (upd_same _ _ _))), x.sub _ _ (o2.get (o1.get (by rw [upd_ne (Ne.symm hn)]; exact upd_same _ _ _))), o1.alen, x.alen⟩
theorem GX.get (hr : GX g b5 c3 p to l vk kept vx es last h) {d : Nat} {y : Blk} (hd : g d = some y) (n5 : d ≠ b5) (n3 : d ≠ c3) : h d = some y := by
 obtain ⟨hn, vo, h1, h2, o1, o2, x⟩ := hr
 exact x.sub _ _ (o2.get (o1.get (by rw [upd_ne n5, upd_ne n3]; exact hd)))
theorem GX.upd (hr : GX g b5 c3 p to l vk kept vx es last h) {b : Nat} {x : Blk} (hb : h b = none ∨ (∃ y, g b = some y) ∧ b ≠ b5 ∧ b ≠ c3) : GX (Ab.upd g b x) b5 c3 p to l vk kept vx es last (Ab.upd h b x) ∧ b ≠ b5 ∧ b ≠ c3 := by
 obtain ⟨hn, vo, h1, h2, o1, o2, ex⟩ := hr
 have hb1 : (h b = none ∨ ∃ y, h2 b = some y) ∧ (h2 b = none ∨ ∃ y, h1 b = some y) ∧ (h1 b = none ∨ ∃ y, (Ab.upd (Ab.upd g c3 ⟨[p, vo, vx, .int .i64 last], 0⟩) b5 ⟨[.ptr c3 0, .ro (to.map (.int .i64)) to.length], 0⟩) b = some y) ∧ b ≠ b5 ∧ b ≠ c3 := by
  rcases hb with hb | ⟨⟨y, hy⟩, n5, n3⟩
  ·have e2 := ex.sub.none hb
   have e1 := o2.sub.none e2
   have e0 := o1.sub.none e1
   have a := upd_none e0
   have c := upd_none a.2
   exact ⟨.inl hb, .inl e2, .inl e1, a.1, c.1⟩
  ·have e0 : (Ab.upd (Ab.upd g c3 ⟨[p, vo, vx, .int .i64 last], 0⟩) b5 ⟨[.ptr c3 0, .ro (to.map (.int .i64)) to.length], 0⟩) b = some y := by rw [upd_ne n5, upd_ne n3]; exact hy
   exact ⟨.inr ⟨y, o2.get (o1.get e0)⟩, .inr ⟨y, o1.get e0⟩, .inr ⟨y, e0⟩, n5, n3⟩
 obtain ⟨k1, k2, k3, n5, n3⟩ := hb1
 refine ⟨⟨hn, vo, Ab.upd h1 b x, Ab.upd h2 b x, ?_, o2.upd k2, ex.upd k1⟩, n5, n3⟩
 have e : Ab.upd (Ab.upd (Ab.upd g b x) c3 ⟨[p, vo, vx, .int .i64 last], 0⟩) b5 ⟨[.ptr c3 0, .ro (to.map (.int .i64)) to.length], 0⟩ = Ab.upd (Ab.upd (Ab.upd g c3 ⟨[p, vo, vx, .int .i64 last], 0⟩) b5 ⟨[.ptr c3 0, .ro (to.map (.int .i64)) to.length], 0⟩) b x := by
  rw [upd_comm (h := Ab.upd g c3 ⟨[p, vo, vx, .int .i64 last], 0⟩) (Ne.symm n5), upd_comm (h := g) (Ne.symm n3)]
 rw [e]
 exact o1.upd k3
theorem GX.mark (hr : GX g b5 c3 p to l vk kept vx es last h) (hk : 0 < kept.length) : ∃ bk pre cap sp, vk = .sl bk pre.length kept.length cap ∧ h bk = some ⟨pre ++ kept.map (.int .i64), sp⟩ ∧ bk ≠ b5 ∧ bk ≠ c3 ∧
  ∀ kept', kept'.length = kept.length → GX g b5 c3 p to l vk kept' vx es last (Ab.upd h bk ⟨pre ++ kept'.map (.int .i64), sp⟩) := by
 obtain ⟨hn, vo, h1, h2, o1, o2, ex⟩ := hr
 obtain ⟨bk, pre, cap, sp, e1, e2, e3, e4⟩ := own_lie o2 hk
 have n := upd_none (o1.sub.none e3)
 refine ⟨bk, pre, cap, sp, e1, ex.sub _ _ e2, n.1, (upd_none n.2).1, fun kept' hl => ⟨hn, vo, h1, _, o1, ?_, ex.upd (.inr ⟨_, e2⟩)⟩⟩
 rw [hl]
 exact e4 _ (by simp [hl])
theorem GX.op (hr : GX g b5 c3 p to l vk kept vx es last h) (hk : 0 < l.length) : ∃ bo pre cap sp, h bo = some ⟨pre ++ l.flatMap IOp.cells, sp⟩ ∧ (∃ vo, vo = .sl bo pre.length l.length cap ∧ h c3 = some ⟨[p, vo, vx, .int .i64 last], 0⟩) ∧ bo ≠ b5 ∧ bo ≠ c3 ∧
  ∀ l', l'.length = l.length → GX g b5 c3 p to l' vk kept vx es last (Ab.upd h bo ⟨pre ++ l'.flatMap IOp.cells, sp⟩) := by
 obtain ⟨hn, vo, h1, h2, o1, o2, ex⟩ := hr
 obtain ⟨bo, pre, cap, sp, e1, e2, e3, e4⟩ := own_lie o1 hk
 have n := upd_none e3
 have hc3 := ex.sub _ _ (o2.get (o1.get (b := c3) (by rw [upd_ne (Ne.symm hn)]; exact upd_same _ _ _)))
 refine ⟨bo, pre, cap, sp, ex.sub _ _ (o2.get e2), ⟨vo, e1, hc3⟩, n.1, (upd_none n.2).1, fun l' hl => ⟨hn, vo, _, _, ?_, o2.upd (.inr ⟨_, e2⟩), ex.upd (.inr ⟨_, o2.get e2⟩)⟩⟩
 rw [hl]
 exact e4 _ (by rw [flat_len IOp.cells 6 _ (fun x _ => IOp.len x), flat_len IOp.cells 6 _ (fun x _ => IOp.len x), hl])
theorem GX.lst (hr : GX g b5 c3 p to l vk kept vx es last h) (x : Int) : ∃ vo, h c3 = some ⟨[p, vo, vx, .int .i64 last], 0⟩ ∧ GX g b5 c3 p to l vk kept vx es x (Ab.upd h c3 ⟨[p, vo, vx, .int .i64 x], 0⟩) := by
 obtain ⟨hn, vo, h1, h2, o1, o2, ex⟩ := hr
 have k0 : (Ab.upd (Ab.upd g c3 ⟨[p, vo, vx, .int .i64 last], 0⟩) b5 ⟨[.ptr c3 0, .ro (to.map (.int .i64)) to.length], 0⟩) c3 = some ⟨[p, vo, vx, .int .i64 last], 0⟩ := by rw [upd_ne (Ne.symm hn)]; exact upd_same _ _ _
 refine ⟨vo, ex.sub _ _ (o2.get (o1.get k0)), hn, vo, _, _, ?_, o2.upd (.inr ⟨_, o1.get k0⟩), ex.upd (.inr ⟨_, o2.get (o1.get k0)⟩)⟩
 have := o1.upd (b := c3) (x := ⟨[p, vo, vx, .int .i64 x], 0⟩) (.inr ⟨_, k0⟩)
 rw [upd_comm (h := Ab.upd g c3 ⟨[p, vo, vx, .int .i64 last], 0⟩) hn, upd_upd] at this
 exact this
theorem GX.app {e : IEx} {w : AV} {h0 : Heap} (hr : GX g b5 c3 p to l vk kept vx es last h0) (ho : Own 2 h0 w (e.map.flatMap IVl.cells) e.map.length h) : ∃ vo g1 cs, h b5 = some ⟨[.ptr c3 0, .ro (to.map (.int .i64)) to.length], 0⟩ ∧ h c3 = some ⟨[p, vo, vx, .int .i64 last], 0⟩ ∧ Own 5 g1 vx cs es.length h ∧
  ∀ v5 h5, Own 5 g1 v5 (cs ++ exC e w) (es.length + 1) h5 → h5 b5 = some ⟨[.ptr c3 0, .ro (to.map (.int .i64)) to.length], 0⟩ ∧ h5 c3 = some ⟨[p, vo, vx, .int .i64 last], 0⟩ ∧ (∀ d y, g d = some y → d ≠ b5 → d ≠ c3 → h5 d = some y) ∧ GX g b5 c3 p to l vk kept v5 (es ++ [e]) last (Ab.upd h5 c3 ⟨[p, vo, v5, .int .i64 last], 0⟩) := by
 obtain ⟨hn, vo, h1, h2, o1, o2, ex⟩ := hr
 have k5 : (Ab.upd (Ab.upd g c3 ⟨[p, vo, vx, .int .i64 last], 0⟩) b5 ⟨[.ptr c3 0, .ro (to.map (.int .i64)) to.length], 0⟩) b5 = some ⟨[.ptr c3 0, .ro (to.map (.int .i64)) to.length], 0⟩ := upd_same _ _ _
 have k3 : (Ab.upd (Ab.upd g c3 ⟨[p, vo, vx, .int .i64 last], 0⟩) b5 ⟨[.ptr c3 0, .ro (to.map (.int .i64)) to.length], 0⟩) c3 = some ⟨[p, vo, vx, .int .i64 last], 0⟩ := by rw [upd_ne (Ne.symm hn)]; exact upd_same _ _ _
 obtain ⟨g1, cs, q1, q2⟩ := ex.snoc ho
 refine ⟨vo, g1, cs, ho.get (ex.sub _ _ (o2.get (o1.get k5))), ho.get (ex.sub _ _ (o2.get (o1.get k3))), q1, fun v5 h5 o5 => ?_⟩
 have ex5 := q2 v5 h5 o5
 refine ⟨ex5.sub _ _ (o2.get (o1.get k5)), ex5.sub _ _ (o2.get (o1.get k3)), fun d y hd n5 n3 => ex5.sub _ _ (o2.get (o1.get (by rw [upd_ne n5, upd_ne n3]; exact hd))), hn, vo, _, _, ?_, o2.upd (.inr ⟨_, o1.get k3⟩), ex5.upd (.inr ⟨_, o2.get (o1.get k3)⟩)⟩
 have := o1.upd (b := c3) (x := ⟨[p, vo, v5, .int .i64 last], 0⟩) (.inr ⟨_, k3⟩)
 rw [upd_comm (h := Ab.upd g c3 ⟨[p, vo, vx, .int .i64 last], 0⟩) hn, upd_upd] at this
 exact this
end
end Go.Ab
end
section
namespace Go.Ab
open Go.Proofs
variable {G : Glo} {h : Heap}
def kv (nm : Nat → Bool) (n : Nat) : List Int := (List.range n).map fun i => if nm i then 1 else 0
theorem kv_len (nm : Nat → Bool) (n : Nat) : (kv nm n).length = n := by simp [kv]
theorem kv_set {nm nm' : Nat → Bool} {n k : Nat} (h : ∀ i, i < n → nm' i = (nm i || decide (i = k))) : (kv nm n).set k 1 = kv nm' n := by
 apply List.ext_getElem
 ·simp [kv]
 ·intro i h1 h2
  have hi : i < n := by simpa [kv] using h2
  rw [List.getElem_set]
  simp only [kv, List.getElem_map, List.getElem_range]
  rw [h i hi]
  by_cases e : i = k
  ·subst e; simp
  ·rw [if_neg (fun e' => e e'.symm)]; simp [e]
theorem kv_none (n : Nat) : List.replicate n (0 : Int) = kv (fun _ => false) n := by
 apply List.ext_getElem
 ·simp [kv]
 ·intro i h1 h2; simp [kv]
theorem kv_congr {nm nm' : Nat → Bool} {n : Nat} (h : ∀ i, i < n → nm' i = nm i) : kv nm n = kv nm' n := by
 unfold kv
 refine List.map_congr_left fun i hi => ?_
 rw [h i (by simpa using hi)]
theorem named_snoc (l : List IOp) (o : IOp) (last : Int) (n : Nat) : namedX (l ++ [o]) last n = (namedX l last n || (decide (4 ≤ o.code) && decide (o.x = n) || decide (o.code = 5) && decide (o.y = n))) := by
 unfold namedX
 rw [List.any_append, Bool.or_assoc]
 congr 2
 simp
section
variable {g : Heap} {b5 c3 : Nat} {p vk vx : AV} {to kept : List Int} {l : List IOp} {es : List IEx} {last : Int}
theorem gmark_spec (hr : GX g b5 c3 p to l vk kept vx es last h) {x : Int} (hx : 0 ≤ x ∧ x < kept.length) : Spec Tryz.prog G 135 [.int .i64 x, .cp [vk] 0] h (fun _ h' => h' c3 = h c3 ∧ GX g b5 c3 p to l vk (kept.set x.toNat 1) vx es last h') := by
 obtain ⟨h0, h1⟩ := hx
 obtain ⟨bk, pre, cap, sp, rfl, e2, n5, n3, e4⟩ := hr.mark (by omega)
 have q : x.toNat < kept.length := by omega
 have hset : (pre ++ kept.map (AV.int .i64)).set (pre.length + x.toNat) (.int .i64 1) = pre ++ (kept.set x.toNat 1).map (AV.int .i64) := by
  rw [List.set_append_right _ _ (by omega), Nat.add_sub_cancel_left, List.map_set]
 have hlen : (pre ++ kept.map (AV.int .i64)).length = pre.length + kept.length := by simp
 refine Spec.walk C135ok rfl ?_
 simp (disch := omega) only [push_cast, simprocAttr, wrap_i64, toNat_ofInt64, Nat.min_eq_left, Int.toNat_of_nonneg, e2, h0, h1, q, hset, hlen]
 refine ⟨by omega, ?_, e4 _ (by simp)⟩
 rw [upd_ne (Ne.symm n3)]
theorem gmarks_spec {Q : Exit → Env → Heap → Prop} {vb : AV} {N : Nat} {last0 : Int} (hr : GX g b5 c3 p to l vk (kv (namedX [] last0) N) .nils [] 0 h) (hN : N ≤ 1000000000000) (hl : l.length ≤ 1000000000000)
  (hx : ∀ j : Nat, j < l.length → (l.getD j IOp.zero).code ≤ 6 ∧ (4 ≤ (l.getD j IOp.zero).code → 0 ≤ (l.getD j IOp.zero).x ∧ (l.getD j IOp.zero).x < N) ∧ ((l.getD j IOp.zero).code = 5 → 0 ≤ (l.getD j IOp.zero).y ∧ (l.getD j IOp.zero).y < N))
  (hq : ∀ ρ h', lk ρ 0 = .ptr b5 0 → lk ρ 1 = vb → lk ρ 2 = .int .i64 last0 → lk ρ 6 = .cp [vk] 0 → GX g b5 c3 p to l vk (kv (namedX l last0) N) .nils [] 0 h' → Q .normal ρ h') :
  wpc Tryz.prog G Tryz.f106.ntmps C106_37 Q [(0, .ptr b5 0), (1, vb), (2, .int .i64 last0), (6, .cp [vk] 0), (7, .fn 135 [] [.cp [vk] 0])] h := by
 obtain ⟨vo, hb5, hc3, hal, _⟩ := hr.at
 simp only [push_cast, simprocAttr, hb5, hc3, hal]
 refine lpc.rel [0, 1, 2, 6, 7, 31, 32, 33] (fun m ρ h' => ∃ i : Nat, m = l.length - i ∧ i ≤ l.length ∧ h' c3 = some ⟨[p, vo, .nils, .int .i64 0], 0⟩ ∧ GX g b5 c3 p to l vk (kv (namedX (l.take i) last0) N) .nils [] 0 h' ∧
  ρ = [(0, .ptr b5 0), (1, vb), (2, .int .i64 last0), (6, .cp [vk] 0), (7, .fn 135 [] [.cp [vk] 0]), (31, vo), (32, .int .i64 (l.length : Int)), (33, .int .i64 (i : Int))]) ⟨_, 0, rfl, by omega, hc3, hr, rfl⟩ ?_
 rintro m _ h2 ⟨i, rfl, hi, hc, hr, rfl⟩
 by_cases hi2 : i < l.length
 ·obtain ⟨bo, pre, cap, sp, hbo, ⟨vo', e1, e2⟩, m5, m3, _⟩ := hr.op (by omega)
  rw [hc] at e2
  simp only [Option.some.injEq, Blk.mk.injEq, List.cons.injEq, and_true, true_and] at e2
  rw [e1] at e2
  subst e2
  obtain ⟨x1, x2, x3⟩ := hx i hi2
  have htk : l.take (i + 1) = l.take i ++ [l.getD i IOp.zero] := by
   rw [List.take_add_one]; simp [hi2]
  have hnm := fun n => named_snoc (l.take i) (l.getD i IOp.zero) last0 n
  rw [← htk] at hnm
  generalize hO : l.getD i IOp.zero = o at *
  have hkl := kv_len (namedX (l.take i) last0) N
  by_cases c5 : o.code = 5
  ·have hy := x3 c5
   have hx' := x2 (by omega)
   simp only [push_cast, simprocAttr, hi2, hbo, hO]
   intro c' hc'
   rw [era_none hc']
   simp only [push_cast, simprocAttr, c5]
   refine ⟨⟨_, C135ok.hf, rfl, rfl⟩, (gmark_spec hr (x := o.y) (by omega)).mono ?_⟩
   rintro _ h6 ⟨k6, r6⟩
   simp only [push_cast, simprocAttr]
   refine ⟨⟨_, C135ok.hf, rfl, rfl⟩, (gmark_spec r6 (x := o.x) (by rw [List.length_set]; omega)).mono ?_⟩
   rintro _ h7 ⟨k7, r7⟩
   simp (disch := omega) only [push_cast, simprocAttr, wrap_i64, toNat_ofInt64, Nat.min_eq_left, Int.toNat_of_nonneg]
   refine ⟨_, _, by omega, .refl _, i + 1, rfl, by omega, by rw [k7, k6]; exact hc, ?_, rfl⟩
   rw [kv_set (nm' := fun n => namedX (l.take i) last0 n || decide (n = o.y.toNat)) (fun n _ => rfl), kv_set (nm' := namedX (l.take (i + 1)) last0) (fun n _ => ?_)] at r7
   ·exact r7
   ·rw [hnm n, c5]
    have a1 : decide (o.x = (n : Int)) = decide (n = o.x.toNat) := by rw [decide_eq_decide]; omega
    have a2 : decide (o.y = (n : Int)) = decide (n = o.y.toNat) := by rw [decide_eq_decide]; omega
    rw [a1, a2]
    cases namedX (l.take i) last0 n <;> cases decide (n = o.x.toNat) <;> cases decide (n = o.y.toNat) <;> rfl
  ·by_cases c46 : o.code = 4 ∨ o.code = 6
   ·have hx' := x2 (by omega)
    have nx : ∀ n < N, namedX (l.take (i + 1)) last0 n = (namedX (l.take i) last0 n || decide (n = o.x.toNat)) := by
     intro n _
     rw [hnm n]
     have a1 : decide (o.x = (n : Int)) = decide (n = o.x.toNat) := by rw [decide_eq_decide]; omega
     have a2 : decide (4 ≤ o.code) = true := decide_eq_true (by omega)
     have a3 : decide (o.code = 5) = false := decide_eq_false c5
     rw [a1, a2, a3]
     simp
    rcases c46 with c4 | c6
    ·simp only [push_cast, simprocAttr, hi2, hbo, hO]
     intro c' hc'
     rw [era_none hc']
     simp only [push_cast, simprocAttr, c4]
     refine ⟨⟨_, C135ok.hf, rfl, rfl⟩, (gmark_spec hr (x := o.x) (by omega)).mono ?_⟩
     rintro _ h6 ⟨k6, r6⟩
     simp (disch := omega) only [push_cast, simprocAttr, wrap_i64, toNat_ofInt64, Nat.min_eq_left, Int.toNat_of_nonneg]
     rw [kv_set nx] at r6
     exact ⟨_, _, by omega, .refl _, i + 1, rfl, by omega, by rw [k6]; exact hc, r6, rfl⟩
    ·simp only [push_cast, simprocAttr, hi2, hbo, hO]
     intro c' hc'
     rw [era_none hc']
     simp only [push_cast, simprocAttr, c6]
     refine ⟨⟨_, C135ok.hf, rfl, rfl⟩, (gmark_spec hr (x := o.x) (by omega)).mono ?_⟩
     rintro _ h6 ⟨k6, r6⟩
     simp (disch := omega) only [push_cast, simprocAttr, wrap_i64, toNat_ofInt64, Nat.min_eq_left, Int.toNat_of_nonneg]
     rw [kv_set nx] at r6
     exact ⟨_, _, by omega, .refl _, i + 1, rfl, by omega, by rw [k6]; exact hc, r6, rfl⟩
   ·have d4 : ¬ o.code = 4 := fun e => c46 (.inl e)
    have d6 : ¬ o.code = 6 := fun e => c46 (.inr e)
    simp (disch := omega) only [push_cast, simprocAttr, wrap_i64, toNat_ofInt64, Nat.min_eq_left, Int.toNat_of_nonneg, hi2, hbo, hO]
    intro c' hc'
    rw [era_none hc']
    simp (disch := omega) only [push_cast, simprocAttr, wrap_i64, toNat_ofInt64, Nat.min_eq_left, Int.toNat_of_nonneg, c5, d4, d6]
    refine ⟨_, _, by omega, .refl _, i + 1, rfl, by omega, hc, ?_, rfl⟩
    rw [kv_congr (nm := namedX (l.take i) last0) (nm' := namedX (l.take (i + 1)) last0) fun n _ => ?_] at hr
    ·exact hr
    ·rw [hnm n]
     have a2 : decide (4 ≤ o.code) = false := decide_eq_false (by omega)
     have a3 : decide (o.code = 5) = false := decide_eq_false c5
     rw [a2, a3]
     simp
 ·obtain rfl : i = l.length := by omega
  simp only [push_cast, simprocAttr, hi2]
  rw [List.take_length] at hr
  exact hq _ _ rfl rfl rfl rfl hr
end
end Go.Ab
end
section
namespace Go.Ab
open Go.Proofs
variable {G : Glo} {h : Heap}
theorem flat_setD {α : Type} (f : α → List AV) (sz : Nat) (d : α) (hf : ∀ x, (f x).length = sz) : ∀ (l : List α) (k j : Nat) (v : AV) (o' : α), k < l.length → j < sz → (f (l.getD k d)).set j v = f o' → (l.flatMap f).set (k * sz + j) v = (l.set k o').flatMap f := by
 intro l
 induction l with
 | nil => intro k j v o' hk; simp at hk
 | cons a l ih =>
  intro k j v o' hk hj hs
  cases k with
  | zero =>
   simp only [List.flatMap_cons, List.set_cons_zero, Nat.zero_mul, Nat.zero_add]
   rw [List.set_append_left _ _ (by rw [hf]; exact hj)]
   rw [show (a :: l).getD 0 d = a from rfl] at hs
   rw [hs]
  | succ k =>
   simp only [List.flatMap_cons, List.set_cons_succ]
   have e : (k + 1) * sz + j = sz + (k * sz + j) := by rw [Nat.succ_mul]; omega
   rw [List.set_append_right _ _ (by rw [hf, e]; omega), hf, e, Nat.add_sub_cancel_left, ih k j v o' (by simpa using hk) hj hs]
section
variable {g : Heap} {b5 c3 : Nat} {p vk vx : AV} {to kept : List Int} {l : List IOp} {es : List IEx} {last : Int}
theorem GX.rows (hr : GX g b5 c3 p to l vk kept vx es last h) (hl : 0 < l.length) (hk : 0 < kept.length) : ∃ bo pre cap sp bk prk capk spk, h b5 = some ⟨[.ptr c3 0, .ro (to.map (.int .i64)) to.length], 0⟩ ∧ h c3 = some ⟨[p, .sl bo pre.length l.length cap, vx, .int .i64 last], 0⟩ ∧
  vk = .sl bk prk.length kept.length capk ∧ h bo = some ⟨pre ++ l.flatMap IOp.cells, sp⟩ ∧ h bk = some ⟨prk ++ kept.map (.int .i64), spk⟩ ∧ bo ≠ bk ∧ bo ≠ b5 ∧ bo ≠ c3 ∧ bk ≠ b5 ∧ bk ≠ c3 ∧
  ∀ l', l'.length = l.length → GX g b5 c3 p to l' vk kept vx es last (Ab.upd h bo ⟨pre ++ l'.flatMap IOp.cells, sp⟩) := by
 obtain ⟨hn, vo, h1, h2, o1, o2, ex⟩ := hr
 obtain ⟨bo, pre, cap, sp, rfl, e2, e3, e4⟩ := own_lie o1 hl
 obtain ⟨bk, prk, capk, spk, rfl, f2, f3, f4⟩ := own_lie o2 hk
 have n := upd_none e3
 have m := upd_none (o1.sub.none f3)
 have hbb : bo ≠ bk := fun e => by rw [← e, e2] at f3; cases f3
 have k5 := upd_same (Ab.upd g c3 ⟨[p, .sl bo pre.length l.length cap, vx, .int .i64 last], 0⟩) b5 ⟨[.ptr c3 0, .ro (to.map (.int .i64)) to.length], 0⟩
 have k3 : (Ab.upd (Ab.upd g c3 ⟨[p, .sl bo pre.length l.length cap, vx, .int .i64 last], 0⟩) b5 ⟨[.ptr c3 0, .ro (to.map (.int .i64)) to.length], 0⟩) c3 = some ⟨[p, .sl bo pre.length l.length cap, vx, .int .i64 last], 0⟩ := by rw [upd_ne (Ne.symm hn)]; exact upd_same _ _ _
 refine ⟨bo, pre, cap, sp, bk, prk, capk, spk, ex.sub _ _ (o2.get (o1.get k5)), ex.sub _ _ (o2.get (o1.get k3)), rfl, ex.sub _ _ (o2.get e2), ex.sub _ _ f2, hbb, n.1, (upd_none n.2).1, m.1, (upd_none m.2).1, fun l' hl' => ⟨hn, .sl bo pre.length l.length cap, _, _, ?_, o2.upd (.inr ⟨_, e2⟩), ex.upd (.inr ⟨_, o2.get e2⟩)⟩⟩
 rw [hl']
 exact e4 _ (by rw [flat_len IOp.cells 6 _ (fun x _ => IOp.len x), flat_len IOp.cells 6 _ (fun x _ => IOp.len x), hl'])
@[push_cast] theorem ints_getK (prk : List AV) (l : List Int) (x : Int) (h0 : 0 ≤ x) (h1 : x < l.length) : (prk ++ l.map (AV.int .i64))[prk.length + x.toNat]? = some (AV.int .i64 (l.getD x.toNat 0)) := by
 rw [ints_getP, if_pos (by omega)]
theorem reX5 (pl : Nat → Nat) {o : IOp} (h : o.code = 5) : reX pl o = { o with x := (pl o.x.toNat : Int), y := (pl o.y.toNat : Int) } := by unfold reX; rw [if_pos h]
theorem reX46 (pl : Nat → Nat) {o : IOp} (h : o.code = 4 ∨ o.code = 6) : reX pl o = { o with x := (pl o.x.toNat : Int) } := by unfold reX; rw [if_neg (by omega), if_pos (by omega)]
theorem reX0 (pl : Nat → Nat) {o : IOp} (h : o.code < 4) : reX pl o = o := by unfold reX; rw [if_neg (by omega), if_neg (by omega)]
theorem gops_spec {Q : Exit → Env → Heap → Prop} {pl : Nat → Nat} {l0 : List IOp} (hr : GX g b5 c3 p to l0 vk kept vx es last h) (hl : l0.length ≤ 1000000000000) (hk : 0 < kept.length)
  (hx : ∀ j : Nat, j < l0.length → (l0.getD j IOp.zero).code ≤ 6 ∧ (4 ≤ (l0.getD j IOp.zero).code → (0 ≤ (l0.getD j IOp.zero).x ∧ (l0.getD j IOp.zero).x < kept.length) ∧ kept.getD (l0.getD j IOp.zero).x.toNat 0 = pl (l0.getD j IOp.zero).x.toNat) ∧
   ((l0.getD j IOp.zero).code = 5 → (0 ≤ (l0.getD j IOp.zero).y ∧ (l0.getD j IOp.zero).y < kept.length) ∧ kept.getD (l0.getD j IOp.zero).y.toNat 0 = pl (l0.getD j IOp.zero).y.toNat))
  (hq : ∀ ρ h', GX g b5 c3 p to (l0.map (reX pl)) vk kept vx es last h' → Q .normal ρ h') :
  wpc Tryz.prog G Tryz.f106.ntmps C106_116 Q [(0, .ptr b5 0), (6, .cp [vk] 0)] h := by
 obtain ⟨vo, hb5, hc3, hal, _⟩ := hr.at
 simp only [push_cast, simprocAttr, hb5, hc3, hal]
 refine lpc.rel [0, 6, 153, 154] (fun m ρ h' => ∃ i : Nat, m = l0.length - i ∧ i ≤ l0.length ∧ GX g b5 c3 p to (mapK (reX pl) l0 i) vk kept vx es last h' ∧
  ρ = [(0, .ptr b5 0), (6, .cp [vk] 0), (153, .int .i64 (l0.length : Int)), (154, .int .i64 (i : Int))]) ⟨_, 0, rfl, by omega, hr, rfl⟩ ?_
 rintro m _ h2 ⟨i, rfl, hi, hr, rfl⟩
 by_cases hi2 : i < l0.length
 ·have hlk := mapK_len (reX pl) l0 i
  obtain ⟨bo, pre, cap, sp, bk, prk, capk, spk, hb5, hc3, rfl, hbo, hbk, nok, no5, no3, nk5, nk3, put⟩ := hr.rows (by omega) hk
  rw [hlk] at hc3
  have hgk := mapK_get (f := reX pl) IOp.zero hi2
  have hst := mapK_set (f := reX pl) IOp.zero hi2
  obtain ⟨x1, x2, x3⟩ := hx i hi2
  generalize hO : l0.getD i IOp.zero = o at *
  generalize mapK (reX pl) l0 i = L at *
  have hget : ∀ j, j < 6 → (pre ++ L.flatMap IOp.cells)[pre.length + i * 6 + j]? = o.cells[j]? := by
   intro j hj
   rw [Nat.add_assoc, List.getElem?_append_right (by omega), Nat.add_sub_cancel_left, flat_getD IOp.cells 6 _ IOp.zero IOp.len _ _ hj, if_pos (by omega), hgk]
  have f0 : (pre ++ L.flatMap IOp.cells)[pre.length + i * 6]? = some (.int .i64 o.code) := by have := hget 0 (by omega); rw [Nat.add_zero] at this; rw [this]; rfl
  have f4 : (pre ++ L.flatMap IOp.cells)[pre.length + i * 6 + 4]? = some (.int .i64 o.x) := by rw [hget 4 (by omega)]; rfl
  have f5 : (pre ++ L.flatMap IOp.cells)[pre.length + i * 6 + 5]? = some (.int .i64 o.y) := by rw [hget 5 (by omega)]; rfl
  have hfl : (pre ++ L.flatMap IOp.cells).length = pre.length + l0.length * 6 := by rw [List.length_append, flat_len IOp.cells 6 _ (fun x _ => IOp.len x), hlk]
  have hsetx : ∀ y : Int, (pre ++ L.flatMap IOp.cells).set (pre.length + i * 6 + 4) (.int .i64 y) = pre ++ (L.set i { o with x := y }).flatMap IOp.cells := by
   intro y
   rw [Nat.add_assoc, List.set_append_right _ _ (by omega), Nat.add_sub_cancel_left, flat_setD IOp.cells 6 IOp.zero IOp.len _ _ 4 _ { o with x := y } (by omega) (by omega) (by rw [hgk]; rfl)]
  have hsety : ∀ y : Int, (pre ++ L.flatMap IOp.cells).set (pre.length + i * 6 + 5) (.int .i64 y) = pre ++ (L.set i { o with y := y }).flatMap IOp.cells := by
   intro y
   rw [Nat.add_assoc, List.set_append_right _ _ (by omega), Nat.add_sub_cancel_left, flat_setD IOp.cells 6 IOp.zero IOp.len _ _ 5 _ { o with y := y } (by omega) (by omega) (by rw [hgk]; rfl)]
  have nko : ¬ bk = bo := fun e => nok e.symm
  have n5o : ¬ b5 = bo := fun e => no5 e.symm
  have n3o : ¬ c3 = bo := fun e => no3 e.symm
  by_cases c5 : o.code = 5
  ·obtain ⟨⟨y1, y2⟩, y3⟩ := x3 c5
   obtain ⟨⟨z1, z2⟩, z3⟩ := x2 (by omega)
   have gx : ∀ y : Int, (pre ++ (L.set i { o with y := y }).flatMap IOp.cells)[pre.length + i * 6 + 4]? = some (.int .i64 o.x) := by
    intro y
    rw [Nat.add_assoc, List.getElem?_append_right (by omega), Nat.add_sub_cancel_left, flat_getD IOp.cells 6 _ IOp.zero IOp.len _ _ (by omega), if_pos (by rw [List.length_set]; omega)]
    rw [show (L.set i { o with y := y }).getD i IOp.zero = { o with y := y } from by rw [List.getD_eq_getElem?_getD, List.getElem?_set_self (by omega)]; rfl]
    rfl
   have sx : ∀ y x : Int, (pre ++ (L.set i { o with y := y }).flatMap IOp.cells).set (pre.length + i * 6 + 4) (.int .i64 x) = pre ++ (L.set i { o with x := x, y := y }).flatMap IOp.cells := by
    intro y x
    rw [Nat.add_assoc, List.set_append_right _ _ (by omega), Nat.add_sub_cancel_left, flat_setD IOp.cells 6 IOp.zero IOp.len _ _ 4 _ { o with x := x, y := y } (by rw [List.length_set]; omega) (by omega) ?_, List.set_set]
    rw [show (L.set i { o with y := y }).getD i IOp.zero = { o with y := y } from by rw [List.getD_eq_getElem?_getD, List.getElem?_set_self (by omega)]; rfl]
    rfl
   have lx : ∀ y : Int, (pre ++ (L.set i { o with y := y }).flatMap IOp.cells).length = pre.length + l0.length * 6 := by intro y; rw [List.length_append, flat_len IOp.cells 6 _ (fun x _ => IOp.len x), List.length_set, hlk]
   have hre := reX5 pl c5
   rw [c5] at f0
   simp (disch := omega) only [push_cast, simprocAttr, wrap_i64, toNat_ofInt64, Nat.min_eq_left, Int.toNat_of_nonneg, hb5, hc3, hbo, hbk, hi2, f0, f5, y1, y2, y3, hsety, hfl, upd_at, nko, n5o, n3o, gx, z1, z2, z3, sx, lx]
   refine ⟨by omega, by omega, by omega, by omega, _, _, by omega, .refl _, i + 1, rfl, by omega, ?_, rfl⟩
   rw [← hst, hre]
   exact put _ (by rw [List.length_set])
  ·by_cases c46 : o.code = 4 ∨ o.code = 6
   ·obtain ⟨⟨z1, z2⟩, z3⟩ := x2 (by omega)
    have hre := reX46 pl c46
    rcases c46 with c | c
    ·rw [c] at f0
     simp (disch := omega) only [push_cast, simprocAttr, wrap_i64, toNat_ofInt64, Nat.min_eq_left, Int.toNat_of_nonneg, hb5, hc3, hbo, hbk, hi2, f0, f4, hsetx, hfl, upd_at, nko, n5o, n3o, z1, z2, z3]
     refine ⟨by omega, by omega, _, _, by omega, .refl _, i + 1, rfl, by omega, ?_, rfl⟩
     rw [← hst, hre]
     exact put _ (by rw [List.length_set])
    ·rw [c] at f0
     simp (disch := omega) only [push_cast, simprocAttr, wrap_i64, toNat_ofInt64, Nat.min_eq_left, Int.toNat_of_nonneg, hb5, hc3, hbo, hbk, hi2, f0, f4, hsetx, hfl, upd_at, nko, n5o, n3o, z1, z2, z3]
     refine ⟨by omega, by omega, _, _, by omega, .refl _, i + 1, rfl, by omega, ?_, rfl⟩
     rw [← hst, hre]
     exact put _ (by rw [List.length_set])
   ·have d4 : ¬ o.code = 4 := fun e => c46 (.inl e)
    have d6 : ¬ o.code = 6 := fun e => c46 (.inr e)
    have hre := reX0 pl (o := o) (by omega)
    simp (disch := omega) only [push_cast, simprocAttr, wrap_i64, toNat_ofInt64, Nat.min_eq_left, Int.toNat_of_nonneg, hb5, hc3, hbo, hbk, hi2, f0, c5, d4, d6]
    refine ⟨_, _, by omega, .refl _, i + 1, rfl, by omega, ?_, rfl⟩
    have hs0 : L.set i o = L := by rw [← hgk]; exact set_self _ _ _
    rw [← hst, hre, hs0]
    exact hr
 ·obtain rfl : i = l0.length := by omega
  simp only [push_cast, simprocAttr, hi2]
  have : mapK (reX pl) l0 l0.length = l0.map (reX pl) := by simp [mapK]
  rw [this] at hr
  exact hq _ _ hr
end
end Go.Ab
end
section
namespace Go.Ab
open Go.Proofs
variable {G : Glo} {h : Heap}
section
variable {g : Heap} {b5 c3 : Nat} {p vk vx : AV} {to kept : List Int} {l : List IOp} {es : List IEx} {last : Int}
theorem gvals_loop {h1 : Heap} {c' : Nat} {w : AV} {e : IEx} {n2 : Int} {v56 : AV} {n57 n58 : Int} {Q : Exit → Env → Heap → Prop} (hb5 : h1 b5 = some ⟨[.ptr c3 0, .ro (to.map (.int .i64)) to.length], 0⟩)
  (hc : h1 c' = some ⟨exC e w, 0⟩) (o : Own 2 h1 w (e.map.flatMap IVl.cells) e.map.length h) (hok : ∀ v ∈ e.map, 0 ≤ v.val ∧ v.val < to.length) (hl : e.map.length ≤ 1000000000000)
  (hq : ∀ ρ h', lk ρ 0 = .ptr b5 0 → lk ρ 2 = .int .i64 n2 → lk ρ 6 = .cp [vk] 0 → lk ρ 11 = .ptr c' 0 → lk ρ 56 = v56 → lk ρ 57 = .int .i64 n57 → lk ρ 58 = .int .i64 n58 → Own 2 h1 w ((e.map.map (renV to)).flatMap IVl.cells) e.map.length h' → Q .normal ρ h') :
  wpc Tryz.prog G Tryz.f106.ntmps C106_60 Q [(0, .ptr b5 0), (2, .int .i64 n2), (6, .cp [vk] 0), (11, .ptr c' 0), (56, v56), (57, .int .i64 n57), (58, .int .i64 n58)] h := by
 have hcx : exC e w = [.int .i64 e.done, .int .u32 (e.pc.toNat : Int), .int .i64 e.to, .int .i64 e.why, w] := rfl
 rw [hcx] at hc
 have hc' := o.get hc
 have hal := o.alen
 simp only [push_cast, simprocAttr, hc', hal]
 refine lpc.rel [0, 2, 6, 11, 56, 57, 58, 85, 86] (fun m ρ h' => ∃ i : Nat, m = e.map.length - i ∧ i ≤ e.map.length ∧ Own 2 h1 w ((renK to e.map i).flatMap IVl.cells) e.map.length h' ∧
  ρ = [(0, .ptr b5 0), (2, .int .i64 n2), (6, .cp [vk] 0), (11, .ptr c' 0), (56, v56), (57, .int .i64 n57), (58, .int .i64 n58), (85, .int .i64 (e.map.length : Int)), (86, .int .i64 (i : Int))]) ⟨_, 0, rfl, by omega, o, rfl⟩ ?_
 rintro m _ h2 ⟨i, rfl, hi, ho, rfl⟩
 have hb5' := ho.get hb5
 have hc2 := ho.get hc
 by_cases hi2 : i < e.map.length
 ·obtain ⟨bm, pm, cm, sm, rfl, f2, f3, f4⟩ := own_lie ho (by omega)
  have hgi := renK_get (to := to) hi2
  have hgs := renK_set (to := to) hi2
  have hok2 : 0 ≤ (e.map.getD i IVl.zero).val ∧ (e.map.getD i IVl.zero).val < to.length := hok _ (by rw [List.getD_eq_getElem?_getD, List.getElem?_eq_getElem hi2]; simp)
  have hvs := vls_set1 (renK to e.map i) i
  rw [renK_len, hgi] at hvs
  have hrl := renK_len to e.map i
  generalize e.map.getD i IVl.zero = v at hgi hgs hok2 hvs
  obtain ⟨q1, q2⟩ := hok2
  have q3 : v.val.toNat < to.length := by omega
  have hpm : (pm ++ (renK to e.map i).flatMap IVl.cells)[pm.length + i * 2 + 1]? = some (.int .i64 v.val) := by
   rw [Nat.add_assoc, List.getElem?_append_right (by omega), Nat.add_sub_cancel_left, vls_1, hrl, if_pos hi2, hgi]
  have hset : (pm ++ (renK to e.map i).flatMap IVl.cells).set (pm.length + i * 2 + 1) (.int .i64 (to.getD v.val.toNat 0)) = pm ++ (((renK to e.map i).flatMap IVl.cells).set (i * 2 + 1) (.int .i64 (to.getD v.val.toNat 0))) := by
   rw [Nat.add_assoc, List.set_append_right _ _ (by omega), Nat.add_sub_cancel_left]
  have hlp : (pm ++ (renK to e.map i).flatMap IVl.cells).length = pm.length + e.map.length * 2 := by
   rw [List.length_append, flat_len IVl.cells 2 _ (fun x _ => IVl.len x), hrl]
  have hvs' := hvs (to.getD v.val.toNat 0) hi2
  have hx : ({ v with val := to.getD v.val.toNat 0 } : IVl) = renV to v := rfl
  rw [hx, hgs] at hvs'
  simp (disch := omega) only [push_cast, simprocAttr, wrap_i64, toNat_ofInt64, Nat.min_eq_left, Int.toNat_of_nonneg, hb5', hc2, f2, hrl, hpm, q1, q2, q3, hset, hlp, hi2]
  refine ⟨by omega, _, _, by omega, .refl _, i + 1, rfl, by omega, ?_, rfl⟩
  rw [hvs']
  exact f4 _ (by rw [flat_len IVl.cells 2 _ (fun x _ => IVl.len x), flat_len IVl.cells 2 _ (fun x _ => IVl.len x), renK_len, renK_len])
 ·obtain rfl : i = e.map.length := by omega
  simp only [push_cast, simprocAttr, hi2]
  have : renK to e.map e.map.length = e.map.map (renV to) := by simp [renK]
  rw [this] at ho
  exact hq _ _ rfl rfl rfl rfl rfl rfl rfl ho
theorem gapp_spec {e : IEx} {w v56 : AV} {c' : Nat} {h0 : Heap} {n2 n57 n58 : Int} {Q : Exit → Env → Heap → Prop} (hr : GX g b5 c3 p to l vk kept vx es 0 h0) (ho : Own 2 h0 w (e.map.flatMap IVl.cells) e.map.length h) (hg : g c' = some ⟨exC e w, 0⟩) (n5 : c' ≠ b5) (n3 : c' ≠ c3) (hl : es.length + 1 ≤ 1000000000000)
  (hq : ∀ ρ v5 h', lk ρ 0 = .ptr b5 0 → lk ρ 2 = .int .i64 n2 → lk ρ 6 = .cp [vk] 0 → lk ρ 56 = v56 → lk ρ 57 = .int .i64 n57 → lk ρ 58 = .int .i64 n58 → GX g b5 c3 p to l vk kept v5 (es ++ [e]) 0 h' → Q .normal ρ h') :
  wpc Tryz.prog G Tryz.f106.ntmps C106_65 Q [(0, .ptr b5 0), (2, .int .i64 n2), (6, .cp [vk] 0), (11, .ptr c' 0), (56, v56), (57, .int .i64 n57), (58, .int .i64 n58)] h := by
 have hcx : exC e w = [.int .i64 e.done, .int .u32 (e.pc.toNat : Int), .int .i64 e.to, .int .i64 e.why, w] := rfl
 have hc := ho.get (hr.get hg n5 n3)
 obtain ⟨vo, g1, cs, hb5, hc3, o1, app⟩ := hr.app ho
 rw [hcx] at hc
 simp only [push_cast, simprocAttr, hb5, hc3, hc]
 refine Own.app o1 (m := 1) rfl (by omega) (by omega) fun v5 h5 o5 => ?_
 obtain ⟨k5, k3, kg, hr5⟩ := app v5 h5 (by rw [hcx]; exact o5)
 have hone := o5.one
 simp only [push_cast, simprocAttr, k5, k3, hone]
 exact hq _ _ _ rfl rfl rfl rfl rfl rfl hr5
theorem gexit_spec {E : List IEx} {k : Nat} {n2 : Int} {Q : Exit → Env → Heap → Prop} (hr : GX g b5 c3 p to l vk kept vx es 0 h) (hN : kept.length = E.length) (hE : E.length ≤ 1000000000000) (hes : es.length < E.length) (hk : k < E.length) (hm : (E.getD k IEx.zero).map.length ≤ 1000000000000)
  (hok : kept.getD k 0 ≠ 0 → exOK to (E.getD k IEx.zero))
  (hq : ∀ ρ g1 vx' h', lk ρ 0 = .ptr b5 0 → lk ρ 2 = .int .i64 n2 → lk ρ 6 = .cp [vk] 0 → lk ρ 56 = exs E → lk ρ 57 = .int .i64 E.length → lk ρ 58 = .int .i64 k → Sub g g1 → g1 b5 = g b5 → g1 c3 = g c3 →
   GX g1 b5 c3 p to l vk (if kept.getD k 0 = 0 then kept else kept.set k (es.length : Int)) vx' (if kept.getD k 0 = 0 then es else es ++ [renE to (E.getD k IEx.zero)]) 0 h' → Q .normal ρ h') :
  wpc Tryz.prog G Tryz.f106.ntmps C106_72 Q [(0, .ptr b5 0), (2, .int .i64 n2), (6, .cp [vk] 0), (56, exs E), (57, .int .i64 (E.length : Int)), (58, .int .i64 (k : Int))] h := by
 generalize hO : E.getD k IEx.zero = e at *
 have hG := fun h1 h c' w Q a1 a2 a3 a4 => gvals_loop (G := G) (b5 := b5) (c3 := c3) (vk := vk) (to := to) (h1 := h1) (h := h) (c' := c') (w := w) (e := e) (n2 := n2) (v56 := exs E) (n57 := (E.length : Int)) (n58 := (k : Int)) (Q := Q) a1 a2 a3 a4 hm
 have hA := fun g kept e w c' h0 h Q a1 a2 a3 a4 a5 => gapp_spec (G := G) (g := g) (b5 := b5) (c3 := c3) (p := p) (vk := vk) (vx := vx) (to := to) (kept := kept) (l := l) (es := es) (e := e) (w := w) (v56 := exs E) (c' := c') (h0 := h0) (h := h) (n2 := n2) (n57 := (E.length : Int)) (n58 := (k : Int)) (Q := Q) a1 a2 a3 a4 a5 (by omega)
 show wpc _ _ _ (.block 6 (.seq [0, 2, 6, 10, 11, 56, 57, 58] C106_41 (.seq [0, 2, 6, 10, 11, 56, 57, 58] C106_44 (.seq [0, 2, 6, 11, 56, 57, 58] C106_45 (.seq [0, 2, 6, 11, 56, 57, 58] C106_46 (.seq [0, 2, 6, 11, 56, 57, 58] C106_60 (.seq [0, 2, 6, 11, 56, 57, 58] C106_64 C106_65))))))) _ _ _
 generalize C106_60 = Z at hG ⊢
 generalize C106_65 = Y at hA ⊢
 simp only [push_cast, simprocAttr, hk, hO]
 intro c' hc'
 obtain ⟨hu, n5, n3⟩ := hr.upd (x := ⟨e.cells, 0⟩) (.inl hc')
 have hcc := upd_same h c' ⟨e.cells, 0⟩
 have hgc := upd_same g c' ⟨e.cells, 0⟩
 have hg0 : g c' = none := by
  obtain ⟨_, vo, h1, h2, o1, o2, x⟩ := hr
  have := o1.sub.none (o2.sub.none (x.sub.none hc'))
  rwa [upd_ne n5, upd_ne n3] at this
 obtain ⟨bk, prk, capk, spk, rfl, hbk, k5, k3, put⟩ := hu.mark (by omega)
 obtain ⟨vo, hb5, hc3, hal, hax⟩ := hu.at
 have hkk : k < kept.length := by omega
 have hget : (prk ++ kept.map (AV.int .i64))[prk.length + k]? = some (.int .i64 (kept.getD k 0)) := by rw [ints_getP, if_pos hkk]
 by_cases ck : kept.getD k 0 = 0
 ·rw [ck] at hget
  simp (disch := omega) only [push_cast, simprocAttr, wrap_i64, toNat_ofInt64, Nat.min_eq_left, Int.toNat_of_nonneg, hbk, hkk, hget]
  refine hq _ (Ab.upd g c' ⟨e.cells, 0⟩) vx _ rfl rfl rfl rfl rfl rfl (sub_upd hg0 (.refl _)) (upd_ne (Ne.symm n5)) (upd_ne (Ne.symm n3)) ?_
  rw [if_pos ck, if_pos ck]
  exact hu
 ·have hok := hok ck
  rw [if_neg ck, if_neg ck] at hq
  have hset : (prk ++ kept.map (AV.int .i64)).set (prk.length + k) (.int .i64 (es.length : Int)) = prk ++ (kept.set k (es.length : Int)).map (AV.int .i64) := by
   rw [List.set_append_right _ _ (by omega), Nat.add_sub_cancel_left, List.map_set]
  have hlen : (prk ++ kept.map (AV.int .i64)).length = prk.length + kept.length := by simp
  have hr2 := put (kept.set k (es.length : Int)) (by simp)
  have c2 := hr2.get hgc n5 n3
  have e4 : e.cells[4]? = some (vls e.map) := rfl
  have es4 : ∀ w, e.cells.set 4 w = exC e w := fun _ => rfl
  simp (disch := omega) only [push_cast, simprocAttr, wrap_i64, toNat_ofInt64, Nat.min_eq_left, Int.toNat_of_nonneg, hbk, hkk, hget, ck, hb5, hc3, hax, hset, hlen, c2, e4]
  refine ⟨by omega, (cloneV_spec e.map hm).mono ?_⟩
  rintro w h3 o3
  have c3' := o3.get c2
  have hone := o3.one
  simp only [push_cast, simprocAttr, c3', es4, hone]
  generalize hH2 : Ab.upd (Ab.upd h c' ⟨e.cells, 0⟩) bk ⟨prk ++ (kept.set k (es.length : Int)).map (AV.int .i64), spk⟩ = H2 at *
  obtain ⟨hr3, _, _⟩ := hr2.upd (b := c') (x := ⟨exC e w, 0⟩) (.inr ⟨⟨_, hgc⟩, n5, n3⟩)
  have o4 := o3.upd (b := c') (x := ⟨exC e w, 0⟩) (.inr ⟨_, c2⟩)
  rw [upd_upd] at hr3
  obtain ⟨_, hb53, _, _, _⟩ := hr3.at
  refine hG (Ab.upd H2 c' ⟨exC e w, 0⟩) _ c' w _ hb53 (upd_same _ _ _) o4 hok.2 fun ρ h4 e0 e2 e6 e11 e56 e57 e58 o5 => ?_
  have hc4 := o5.get (upd_same H2 c' ⟨exC e w, 0⟩)
  have hb54 := o5.get hb53
  have x2 : (exC e w)[2]? = some (.int .i64 e.to) := rfl
  have xl : (exC e w).length = 5 := rfl
  by_cases ht : e.to = -1
  ·simp only [push_cast, simprocAttr, e0, e2, e6, e11, e56, e57, e58, hc4, x2, ht]
   refine hA _ _ { e with map := e.map.map (renV to) } w c' _ _ _ hr3 (by simpa using o5) (upd_same _ _ _) n5 n3 fun ρ v5 h5 f0 f2 f6 f56 f57 f58 hr5 => ?_
   refine hq _ (Ab.upd g c' ⟨exC e w, 0⟩) v5 _ f0 f2 f6 f56 f57 f58 (sub_upd hg0 (.refl _)) (upd_ne (Ne.symm n5)) (upd_ne (Ne.symm n3)) ?_
   have hre : renE to e = { e with map := e.map.map (renV to) } := by
    unfold renE; rw [if_pos ht]
    obtain ⟨e1, e2, e3, e4, e5⟩ := e
    simp only at ht
    subst ht
    rfl
   rw [hre]
   exact hr5
  ·have q : 0 ≤ e.to ∧ e.to < to.length := by have := hok.1; omega
   obtain ⟨q0, q1⟩ := q
   have q2 : e.to.toNat < to.length := by omega
   have xs : ∀ x : Int, (exC e w).set 2 (.int .i64 x) = exC { e with to := x } w := fun _ => rfl
   obtain ⟨hr4, _, _⟩ := hr2.upd (b := c') (x := ⟨exC { e with to := to.getD e.to.toNat 0 } w, 0⟩) (.inr ⟨⟨_, hgc⟩, n5, n3⟩)
   rw [upd_upd] at hr4
   have o6 := o5.upd (b := c') (x := ⟨exC { e with to := to.getD e.to.toNat 0 } w, 0⟩) (.inr ⟨_, upd_same _ _ _⟩)
   rw [upd_upd] at o6
   simp (disch := omega) only [push_cast, simprocAttr, wrap_i64, toNat_ofInt64, Nat.min_eq_left, Int.toNat_of_nonneg, e0, e2, e6, e11, e56, e57, e58, hc4, hb54, x2, xl, ht, q0, q1, q2, xs]
   refine hA _ _ { e with to := to.getD e.to.toNat 0, map := e.map.map (renV to) } w c' _ _ _ hr4 (by simpa using o6) (upd_same _ _ _) n5 n3 fun ρ v5 h5 f0 f2 f6 f56 f57 f58 hr5 => ?_
   refine hq _ (Ab.upd g c' ⟨exC { e with to := to.getD e.to.toNat 0 } w, 0⟩) v5 _ f0 f2 f6 f56 f57 f58 (sub_upd hg0 (.refl _)) (upd_ne (Ne.symm n5)) (upd_ne (Ne.symm n3)) ?_
   have hre : renE to e = { e with to := to.getD e.to.toNat 0, map := e.map.map (renV to) } := by
    unfold renE; rw [if_neg ht]
   rw [hre]
   exact hr5
end
end Go.Ab
end
section
namespace Go.Ab
open Go.Proofs
variable {G : Glo} {h : Heap}
def kw (nm : Nat → Bool) (n k : Nat) : List Int := (List.range n).map fun j => if nm j then (if j < k then (plN nm j : Int) else 1) else 0
theorem kw_len (nm : Nat → Bool) (n k : Nat) : (kw nm n k).length = n := by simp [kw]
theorem kw_zero (nm : Nat → Bool) (n : Nat) : kw nm n 0 = kv nm n := by simp [kw, kv]
theorem kw_get (nm : Nat → Bool) {n k j : Nat} (h : j < n) : (kw nm n k).getD j 0 = if nm j then (if j < k then (plN nm j : Int) else 1) else 0 := by simp [kw, h]
theorem kw_set (nm : Nat → Bool) {n k : Nat} (hk : k < n) (hm : nm k = true) : (kw nm n k).set k (plN nm k : Int) = kw nm n (k + 1) := by
 apply List.ext_getElem
 ·simp [kw]
 ·intro i h1 h2
  have hi : i < n := by simpa [kw] using h2
  rw [List.getElem_set]
  simp only [kw, List.getElem_map, List.getElem_range]
  by_cases e : k = i
  ·subst e; rw [if_pos rfl, if_pos hm, if_pos (by omega)]
  ·rw [if_neg e]
   by_cases hn : nm i = true
   ·rw [if_pos hn, if_pos hn]
    by_cases hik : i < k
    ·rw [if_pos hik, if_pos (by omega)]
    ·rw [if_neg hik, if_neg (by omega)]
   ·rw [if_neg hn, if_neg hn]
theorem kw_skip (nm : Nat → Bool) {n k : Nat} (hm : nm k = false) : kw nm n k = kw nm n (k + 1) := by
 unfold kw
 refine List.map_congr_left fun i hi => ?_
 by_cases hn : nm i = true
 ·have : i ≠ k := fun e => by rw [e, hm] at hn; cases hn
  rw [if_pos hn, if_pos hn]
  by_cases hik : i < k
  ·rw [if_pos hik, if_pos (by omega)]
  ·rw [if_neg hik, if_neg (by omega)]
 ·rw [if_neg hn, if_neg hn]
def keptT (nm : Nat → Bool) (to : List Int) (E : List IEx) (k : Nat) : List IEx := ((List.range k).filter nm).map fun n => renE to (E.getD n IEx.zero)
theorem keptT_len (nm to E k) : (keptT nm to E k).length = plN nm k := by simp [keptT, plN]
theorem keptT_all (nm to E) : keptT nm to E E.length = (keptE nm E).map (renE to) := by simp [keptT, keptE]
theorem keptT_succ (nm to E k) : keptT nm to E (k + 1) = if nm k then keptT nm to E k ++ [renE to (E.getD k IEx.zero)] else keptT nm to E k := by
 unfold keptT
 rw [List.range_succ, List.filter_append, List.map_append]
 cases hm : nm k <;> simp [hm]
theorem plN_le (nm : Nat → Bool) (k : Nat) : plN nm k ≤ k := by
 unfold plN
 exact Nat.le_trans (List.length_filter_le _ _) (by simp)
section
variable {g : Heap} {b5 c3 : Nat} {p vo : AV} {to : List Int} {l : List IOp} {last : Int}
theorem gexits_spec (b : IBk) (hw : b.wf) (hn : b5 ≠ c3) (ho : Own 6 (Ab.upd (Ab.upd g c3 ⟨[p, vo, .nils, .int .i64 0], 0⟩) b5 ⟨[.ptr c3 0, .ro (to.map (.int .i64)) to.length], 0⟩) vo (l.flatMap IOp.cells) l.length h) (hl : l.length ≤ 1000000000000)
  (hlast : 0 ≤ last ∧ last < b.exits.length)
  (hx : ∀ j : Nat, j < l.length → (l.getD j IOp.zero).code ≤ 6 ∧ (4 ≤ (l.getD j IOp.zero).code → 0 ≤ (l.getD j IOp.zero).x ∧ (l.getD j IOp.zero).x < b.exits.length) ∧ ((l.getD j IOp.zero).code = 5 → 0 ≤ (l.getD j IOp.zero).y ∧ (l.getD j IOp.zero).y < b.exits.length))
  (hok : ∀ n, n < b.exits.length → namedX l last n = true → exOK to (b.exits.getD n IEx.zero)) :
  Spec Tryz.prog G 106 [.ptr b5 0, bkP b, .int .i64 last] h (fun _ h' => ∃ g1 vk kept vx, Sub g g1 ∧ g1 b5 = g b5 ∧ g1 c3 = g c3 ∧
   GX g1 b5 c3 p to (l.map (reX (plN (namedX l last)))) vk kept vx ((keptE (namedX l last) b.exits).map (renE to)) (plN (namedX l last) last.toNat) h') := by
 obtain ⟨hs1, hs2, hs3⟩ := hw.hs
 obtain ⟨hl0, hl1⟩ := hlast
 have hM := fun vk Q h a1 a5 => gmarks_spec (G := G) (g := g) (b5 := b5) (c3 := c3) (p := p) (vk := vk) (to := to) (l := l) (vb := bkP b) (N := b.exits.length) (last0 := last) (Q := Q) (h := h) a1 hs2 hl hx a5
 have hE := fun g1 vk vx es kept k Q h a1 a2 a3 a4 a5 a6 a7 => gexit_spec (G := G) (g := g1) (b5 := b5) (c3 := c3) (p := p) (vk := vk) (vx := vx) (to := to) (kept := kept) (l := l) (es := es) (E := b.exits) (k := k) (n2 := last) (Q := Q) (h := h) a1 a2 hs2 a3 a4 a5 a6 a7
 have hO := fun g1 vk vx es kept lst Q h a1 a2 a3 a4 => gops_spec (G := G) (g := g1) (b5 := b5) (c3 := c3) (p := p) (vk := vk) (vx := vx) (to := to) (kept := kept) (es := es) (last := lst) (pl := plN (namedX l last)) (l0 := l) (Q := Q) (h := h) a1 hl a2 a3 a4
 refine Spec.walk C106ok rfl ?_
 show wpc _ _ _ (.seq [0, 1, 2, 6] C106_0 (.fz 6 (.seq [0, 1, 2, 6, 7] C106_1 (.seq [0, 1, 2, 6, 7] C106_2 (.seq [0, 1, 2, 6] C106_37 (.seq [0, 2, 6] (.seq [0, 2, 6, 56, 57, 58] C106_38 (.block 5 (.loop (.seq [0, 2, 6, 56, 57, 58, 59] C106_39 (.seq [0, 2, 6, 56, 57, 58] C106_40 (.seq [0, 2, 6, 56, 57, 58] C106_72 C106_73)))))) (.seq [0, 6] C106_80 C106_116))))))) _ _ _
 generalize C106_37 = X at hM ⊢
 generalize C106_72 = Y at hE ⊢
 generalize C106_116 = Z at hO ⊢
 simp only [push_cast, simprocAttr]
 refine ⟨by omega, by omega, by omega, fun bk hbk b2 hb2 => ?_⟩
 rw [era_none hb2]
 refine ⟨⟨_, C135ok.hf, rfl, rfl⟩, ?_⟩
 generalize ((b.exits.length : Int) - (b.exits.length : Int)).toNat = sp
 have hr1 : GX g b5 c3 p to l (.sl bk 0 b.exits.length b.exits.length) (kv (fun _ => false) b.exits.length) .nils [] 0 (Ab.upd h bk ⟨List.replicate b.exits.length (.int .i64 0), sp⟩) := by
  refine ⟨hn, vo, h, _, ho, ?_, ⟨_, [], .nil, .nil⟩⟩
  have := Own.row (sz := 1) (g := h) bk b.exits.length b.exits.length [] (List.replicate b.exits.length (.int .i64 0)) sp hbk (by simp) (by omega)
  rw [kv_len, ← kv_none, List.map_replicate]
  exact this
 generalize AV.sl bk 0 b.exits.length b.exits.length = vk at *
 refine (gmark_spec hr1 (x := last) (by rw [kv_len]; omega)).mono ?_
 rintro _ h3 ⟨_, hr3⟩
 rw [kv_set (nm' := namedX [] last) (fun n _ => by unfold namedX; rw [Bool.eq_iff_iff]; simp; omega)] at hr3
 simp only [push_cast, simprocAttr]
 refine hM vk _ h3 hr3 fun ρ h4 e0 e1 e2 e6 hr4 => ?_
 simp only [push_cast, simprocAttr, e0, e1, e2, e6]
 generalize hnm : namedX l last = nm at *
 refine lpc.rel [0, 2, 6, 56, 57, 58] (fun m ρ h' => ∃ (i : Nat) (g1 : Heap) (vx : AV), m = b.exits.length - i ∧ i ≤ b.exits.length ∧ Sub g g1 ∧ g1 b5 = g b5 ∧ g1 c3 = g c3 ∧ GX g1 b5 c3 p to l vk (kw nm b.exits.length i) vx (keptT nm to b.exits i) 0 h' ∧
  ρ = [(0, .ptr b5 0), (2, .int .i64 last), (6, .cp [vk] 0), (56, exs b.exits), (57, .int .i64 (b.exits.length : Int)), (58, .int .i64 (i : Int))]) ⟨_, 0, g, .nils, rfl, by omega, .refl _, rfl, rfl, by rw [kw_zero]; exact hr4, rfl⟩ ?_
 rintro m _ h5 ⟨i, g1, vx, rfl, hi, hs, h5e, h3e, hr5, rfl⟩
 have hkl := kw_len nm b.exits.length i
 have htl := keptT_len nm to b.exits i
 have hpl := plN_le nm i
 by_cases hi2 : i < b.exits.length
 ·simp only [push_cast, simprocAttr, hi2]
  have hgt := kw_get nm (k := i) hi2
  rw [if_neg (Nat.lt_irrefl i)] at hgt
  refine hE g1 vk vx _ _ i _ h5 hr5 hkl (by omega) hi2 (getD_map (n := i) hs3) (fun hne => ?_) fun ρ g2 vx' h6 f0 f2 f6 f56 f57 f58 hs2' k5 k3 hr6 => ?_
  ·refine hok i hi2 ?_
   cases hm : nm i with
   | true => rfl
   | false => rw [hgt, hm] at hne; simp at hne
  ·simp (disch := omega) only [push_cast, simprocAttr, wrap_i64, toNat_ofInt64, Nat.min_eq_left, Int.toNat_of_nonneg, f0, f2, f6, f56, f57, f58]
   refine ⟨_, _, by omega, .refl _, i + 1, g2, vx', rfl, by omega, hs.trans hs2', by rw [k5, h5e], by rw [k3, h3e], ?_, rfl⟩
   rw [hgt, htl] at hr6
   rw [keptT_succ]
   cases hm : nm i with
   | true =>
    rw [hm] at hr6
    simp only [if_true, show ¬ ((1 : Int) = 0) by decide, if_false] at hr6
    rw [kw_set nm hi2 hm] at hr6
    simpa using hr6
   | false =>
    rw [hm] at hr6
    simp only [Bool.false_eq_true, if_false, if_true] at hr6
    rw [← kw_skip nm hm]
    simpa using hr6
 ·obtain rfl : i = b.exits.length := by omega
  have hnl : nm last.toNat = true := by
   rw [← hnm]; unfold namedX
   rw [decide_eq_true (by omega : last = (last.toNat : Int)), Bool.true_or]
  have hgl := kw_get nm (n := b.exits.length) (k := b.exits.length) (j := last.toNat) (by omega)
  rw [if_pos hnl, if_pos (by omega)] at hgl
  obtain ⟨bk', prk, capk, spk, hvk, hbk', _, k3', _⟩ := hr5.mark (by omega)
  rw [hkl] at hvk
  have hgetk : (prk ++ (kw nm b.exits.length b.exits.length).map (AV.int .i64))[prk.length + last.toNat]? = some (.int .i64 (plN nm last.toNat)) := by rw [ints_getP, if_pos (by omega), hgl]
  obtain ⟨vo6, hc6, hr6⟩ := hr5.lst (plN nm last.toNat)
  obtain ⟨vo6', hb6, _, _, _⟩ := hr5.at
  have q : last.toNat < b.exits.length := by omega
  subst hvk
  simp (disch := omega) only [push_cast, simprocAttr, wrap_i64, toNat_ofInt64, Nat.min_eq_left, Int.toNat_of_nonneg, hi2, hb6, hc6, hbk', hgetk, q, hl0, hl1]
  have hnx : ∀ j : Nat, j < l.length → ∀ x : Int, takes (l.getD j IOp.zero) x → 0 ≤ x → nm x.toNat = true := fun j hj x ht h0 => by
   rw [← hnm]
   exact takes_named (by rw [List.getD_eq_getElem?_getD, List.getElem?_eq_getElem hj]; simp) ht h0
  have hgx : ∀ x : Int, 0 ≤ x → x < b.exits.length → nm x.toNat = true → (kw nm b.exits.length b.exits.length).getD x.toNat 0 = plN nm x.toNat := fun x h0 h1 hm => by
   rw [kw_get nm (by omega), if_pos hm, if_pos (by omega)]
  refine hO g1 _ vx _ _ (plN nm last.toNat) _ _ hr6 (by rw [hkl]; omega) (fun j hj => ?_) fun ρ h7 hr7 => ?_
  ·obtain ⟨x1, x2, x3⟩ := hx j hj
   refine ⟨x1, fun h4 => ?_, fun h5 => ?_⟩
   ·obtain ⟨y1, y2⟩ := x2 h4
    exact ⟨⟨y1, by rw [hkl]; exact y2⟩, hgx _ y1 y2 (hnx j hj _ (.inl ⟨h4, rfl⟩) y1)⟩
   ·obtain ⟨y1, y2⟩ := x3 h5
    exact ⟨⟨y1, by rw [hkl]; exact y2⟩, hgx _ y1 y2 (hnx j hj _ (.inr ⟨h5, rfl⟩) y1)⟩
  ·rw [keptT_all] at hr7
   exact ⟨g1, _, _, vx, hs, h5e, h3e, hr7⟩
end
end Go.Ab
end
section
namespace Go.Ab
open Go.Proofs
variable {G : Glo} {h : Heap}
theorem Spec.preU {P : Program} {f : FuncId} {args : List AV} {h h1 : Heap} {Q : AV → Heap → Prop} (hl : ∀ u, Le u h u h1) (hs : Spec P G f args h1 Q) : Spec P G f args h Q := by
 intro w vs k1 k2 k3
 obtain ⟨x, _, z⟩ := hl .any w (.int .i64 0) k1 (.any _)
 have y : RepL w h1.dom args vs := ⟨k3.1, fun i a v e1 e2 => (hl a w v k1 (k3.2 i a v e1 e2)).2.1⟩
 have hk : Keeps w h.dom w h1.dom := ⟨Nat.le_refl _, fun b _ hn => ⟨fun hd => hd (z b (Classical.not_not.1 hn)), rfl⟩, fun _ h => h⟩
 refine (hs w vs x (k2.keep hk) y).mono ?_
 rintro e w' ⟨v', r, h', he, q, m1, m2, m3⟩
 exact ⟨v', r, h', he, q, m1, m2, ⟨m3.size, fun b hb hn => m3.blk b hb (z b hn), m3.cel, m3.os, m3.tape, m3.out⟩⟩
theorem ExO.dn {s2 n : Nat} {g h1 : Heap} {v vx : AV} {c : List AV} {es : List IEx} (o : Own s2 g v c n h1) (ex : ExO h1 vx es h) : ∃ h2, ExO g vx es h2 ∧ Own s2 h2 v c n h := by
 obtain ⟨h3, ws, o5, r⟩ := ex
 obtain ⟨h4, q1, q2⟩ := own_swap o o5
 obtain ⟨h5, r1, q3⟩ := Rows.dn q2 r
 exact ⟨h5, ⟨h4, ws, q1, r1⟩, q3⟩
theorem GX.le {g h' : Heap} {b5 c3 : Nat} {b : IBk} {to kept : List Int} {vk vx : AV} (hr : GX g b5 c3 (.ro (wds b.pcs) b.pcs.length) to b.ops vk kept vx b.exits b.last h') (hs : Sub h g) (h5 : h b5 = none) (h3 : h c3 = none) : Le (.ptr c3 0) h' (bkP b) h := by
 obtain ⟨hn, vo, h1, h2, o1, o2, ex⟩ := hr
 have k3 : (Ab.upd (Ab.upd g c3 ⟨[.ro (wds b.pcs) b.pcs.length, vo, vx, .int .i64 b.last], 0⟩) b5 ⟨[.ptr c3 0, .ro (to.map (.int .i64)) to.length], 0⟩) c3 = some ⟨[.ro (wds b.pcs) b.pcs.length, vo, vx, .int .i64 b.last], 0⟩ := by rw [upd_ne (Ne.symm hn)]; exact upd_same _ _ _
 have hB : Sub h (Ab.upd (Ab.upd g c3 ⟨[.ro (wds b.pcs) b.pcs.length, vo, vx, .int .i64 b.last], 0⟩) b5 ⟨[.ptr c3 0, .ro (to.map (.int .i64)) to.length], 0⟩) := sub_upd h5 (sub_upd h3 hs)
 obtain ⟨h1', q1, q2⟩ := own_swap o1 o2
 obtain ⟨h3', ex', q3⟩ := ExO.dn q2 ex
 have k3' := ex'.sub _ _ (q1.get k3)
 have e1 := upd_self k3'
 rw [← e1] at q3
 have ex2 := ex'.upd (b := c3) (x := ⟨[.ro (wds b.pcs) b.pcs.length, ops b.ops, vx, .int .i64 b.last], 0⟩) (.inr ⟨_, q1.get k3⟩)
 refine le_trans (Le.cell q3 (cs' := [.ro (wds b.pcs) b.pcs.length, ops b.ops, vx, .int .i64 b.last]) rfl (fun i => ?_)) (exo_le (b := b) (sub_upd h3 (hB.trans q1.sub)) h3 (upd_same _ _ _) ex2)
 match i with
 | 0 => exact .inl rfl
 | 1 => exact .inr ⟨rfl, rfl⟩
 | 2 => exact .inl rfl
 | 3 => exact .inl rfl
 | i + 4 => exact .inl rfl
theorem gd_exits {b : IBk} (hc : b.check = 0) {m : Nat} (hm : m ≤ b.ops.length) (e1 : (gScan b.last b.ops ⟨[], []⟩).1 = psN gF (b.ops.take m)) (e2 : b.exit (gScan b.last b.ops ⟨[], []⟩).2 m = true) :
  (∀ j, j < (psN gF (b.ops.take m)).l.length → ∃ i, i < m ∧ (psN gF (b.ops.take m)).l.getD j IOp.zero = ren (psN gF (b.ops.take i)).to (b.ops.getD i IOp.zero) ∧ ∀ x, takes ((psN gF (b.ops.take m)).l.getD j IOp.zero) x → b.exit x i = true) ∧
   ∀ n : Nat, namedX (psN gF (b.ops.take m)).l (gScan b.last b.ops ⟨[], []⟩).2 n = true → ∃ i, i ≤ m ∧ b.exit n i = true := by
 have hp := right_parts hc
 have hsrc := psN_src gF b.ops m hm
 have key : ∀ j, j < (psN gF (b.ops.take m)).l.length → ∃ i, i < m ∧ (psN gF (b.ops.take m)).l.getD j IOp.zero = ren (psN gF (b.ops.take i)).to (b.ops.getD i IOp.zero) ∧ ∀ x, takes ((psN gF (b.ops.take m)).l.getD j IOp.zero) x → b.exit x i = true := by
  intro j hj
  obtain ⟨i, h1, h2, h3, h4⟩ := hsrc j hj
  have e3 : ∀ l o, (gF l o).2 = o := fun l o => by unfold gF; split <;> rfl
  rw [e3] at h4
  refine ⟨i, h1, h4, fun x ht => ?_⟩
  rw [h4] at ht
  unfold takes at ht
  rw [ren_code, (ren_xy _ _).1, (ren_xy _ _).2.1] at ht
  exact opR_takes (hp.1 i (by omega)) ht
 refine ⟨key, fun n hn => ?_⟩
 unfold namedX at hn
 rw [Bool.or_eq_true, List.any_eq_true, decide_eq_true_eq] at hn
 rcases hn with h | ⟨o, h1, h2⟩
 ·exact ⟨m, Nat.le_refl _, by rw [← h]; exact e2⟩
 ·simp only [Bool.or_eq_true, Bool.and_eq_true, decide_eq_true_eq] at h2
  obtain ⟨j, hj, rfl⟩ := List.getElem_of_mem h1
  have e4 : (psN gF (b.ops.take m)).l[j] = (psN gF (b.ops.take m)).l.getD j IOp.zero := by simp [hj]
  rw [e4] at h2
  obtain ⟨i, q1, q2, q3⟩ := key j hj
  exact ⟨i, by omega, q3 n h2⟩
theorem AgV.exit {b : IBk} {m : Nat} {to to' : List Int} (ha : AgV b m to to') {n i : Nat} (hi : i ≤ m) (h : b.exit n i = true) : exOK to' (b.exits.getD n IEx.zero) ∧ renE to' (b.exits.getD n IEx.zero) = renE to (b.exits.getD n IEx.zero) := by
 obtain ⟨_, h3, h4⟩ := exit_parts h
 have he : b.ex (n : Int).toNat = b.exits.getD n IEx.zero := rfl
 rw [he] at h3 h4
 generalize b.exits.getD n IEx.zero = e at *
 have hb : ∀ x, vin b.ops i x → 0 ≤ x ∧ x < to'.length := fun x ⟨a, c, _, _⟩ => ⟨a, by rw [ha.1]; omega⟩
 refine ⟨⟨h3.imp id (hb _), fun v hv => hb _ (h4 v hv)⟩, ?_⟩
 unfold renE
 have hmap : e.map.map (renV to') = e.map.map (renV to) := by
  refine List.map_congr_left fun v hv => ?_
  unfold renV
  rw [ha.at hi (h4 v hv)]
 rw [hmap]
 rcases h3 with h3 | h3
 ·rw [if_pos h3, if_pos h3]
 ·rw [ha.at hi h3]
theorem guardDo_spec (b : IBk) (hw : b.wf) (hc : b.check = 0) : Spec Tryz.prog G 68 [bkP b] h (Is (.tup [bkP b.gd, .int .i64 0]) h) := by
 obtain ⟨hops, hexs⟩ := right_parts hc
 obtain ⟨hs1, hs2, hs3⟩ := hw.hs
 refine Spec.weak (Q := fun r h' => ∃ b5 c3 g to vk kept vx, r = .tup [.ptr c3 0, .int .i64 0] ∧ h c3 = none ∧ h b5 = none ∧ Sub h g ∧ GX g b5 c3 (.ro (wds b.pcs) b.pcs.length) to b.gd.ops vk kept vx b.gd.exits b.gd.last h') ?_ ?_
 ·refine Spec.walk C68ok rfl ?_
  simp only [push_cast, simprocAttr]
  refine (Check_spec b hw).to ?_
  rw [hc]
  simp only [push_cast, simprocAttr]
  refine (cloneP_spec b.pcs hw.hq).to ?_
  simp only [push_cast, simprocAttr]
  intro c3 hc3 b5 hb5
  have n := upd_none hb5
  have hr0 : PsO h b5 c3 (.ro (wds b.pcs) b.pcs.length) .nils (.int .i64 0) [] .nils [] [] (Ab.upd (Ab.upd h c3 ⟨[.ro (wds b.pcs) b.pcs.length, .nils, .nils, .int .i64 0], 0⟩) b5 ⟨[.ptr c3 0, .nils], 0⟩) := ⟨n.1, .nils, _, .nil, .nil⟩
  refine (gthrough_spec b hw hc hr0).mono ?_
  rintro _ h3 ⟨rfl, m, vt, toR, g', hm, hs, he5, he3, e1, hag, hr3⟩
  have e2 : b.exit (gScan b.last b.ops ⟨[], []⟩).2 m = true := by
   obtain ⟨m', hm', q1, q2⟩ := gScan_at b.ops b.last b.ops.length 0 (by omega)
   rw [List.drop_zero, List.take_zero] at q1 q2
   have e0 : psN gF [] = ⟨[], []⟩ := rfl
   rw [e0] at q1 q2
   have el : (psN gF (b.ops.take m)).to.length = (psN gF (b.ops.take m')).to.length := by rw [← e1, q1]
   rw [psN_to, psN_to, List.length_take, List.length_take] at el
   have : m' = m := by omega
   subst this
   rcases q2 with ⟨h1, h2⟩ | ⟨h1, h2, h3, h4⟩
   ·rw [h2, h1]
    have := chk_right hc
    simp only [IBk.right, Bool.and_eq_true] at this
    exact this.2
   ·rw [h4]
    exact opR_takes (hops _ h1) (.inl ⟨by omega, rfl⟩)
  obtain ⟨k1, k2⟩ := gd_exits hc hm e1 e2
  have hgd : b.gd = prB b.pcs (psN gF (b.ops.take m)).l b.exits (gScan b.last b.ops ⟨[], []⟩).2 (renE (psN gF (b.ops.take m)).to) := by unfold IBk.gd; rw [e1]
  rw [hgd]
  have hll := psN_l gF (b.ops.take m)
  rw [List.length_take] at hll
  generalize psN gF (b.ops.take m) = s at *
  generalize (gScan b.last b.ops ⟨[], []⟩).2 = lX at *
  simp only [push_cast, simprocAttr]
  obtain ⟨hn, vo, h1, o1, o2⟩ := hr3
  have e1' := upd_self (o1.get (upd_same _ _ _))
  rw [← e1'] at o2
  have o1' := Own.upd o1 (b := b5) (x := ⟨[.ptr c3 0, .ro (toR.map (.int .i64)) toR.length], 0⟩) (.inr ⟨_, upd_same _ _ _⟩)
  rw [upd_upd] at o1'
  have hlast := (exit_parts e2).1
  refine (Spec.preU (h1 := Ab.upd h1 b5 ⟨[.ptr c3 0, .ro (toR.map (.int .i64)) toR.length], 0⟩) (fun u => Le.cell o2 (cs' := [.ptr c3 0, .ro (toR.map (.int .i64)) toR.length]) rfl (fun i => ?_)) (gexits_spec (last := lX) b hw hn o1' (by omega) hlast (fun j hj => ?_) (fun n hn hm => ?_))).mono ?_
  ·match i with
   | 0 => exact .inl rfl
   | 1 => exact .inr ⟨rfl, rfl⟩
   | i + 2 => exact .inl rfl
  ·obtain ⟨i, q1, q2, q3⟩ := k1 j hj
   refine ⟨?_, fun h4 => (exit_parts (q3 _ (.inl ⟨h4, rfl⟩))).1, fun h5 => (exit_parts (q3 _ (.inr ⟨h5, rfl⟩))).1⟩
   rw [q2, ren_code]
   have := kind_of (hops i (by omega))
   unfold kindN at this
   simp only at this
   (repeat' split at this) <;> first | omega | (cases this)
  ·obtain ⟨i, q1, q2⟩ := k2 n hm
   exact (hag.exit q1 q2).1
  ·rintro _ h6 ⟨g1, vk, kept, vx, hs1', h5', h3', hr6⟩
   obtain ⟨vo6, hb6, hc6, _, _⟩ := hr6.at
   simp only [push_cast, simprocAttr, hb6]
   refine ⟨b5, c3, g1, toR, vk, kept, vx, rfl, hc3, n.2, hs.trans hs1', ?_⟩
   have hex : (keptE (namedX s.l lX) b.exits).map (renE toR) = (keptE (namedX s.l lX) b.exits).map (renE s.to) := by
    unfold keptE
    rw [List.map_map, List.map_map]
    refine List.map_congr_left fun n hn => ?_
    rw [List.mem_filter] at hn
    obtain ⟨i, q1, q2⟩ := k2 n hn.2
    exact (hag.exit q1 q2).2
   rw [hex] at hr6
   exact hr6
 ·rintro _ _ ⟨b5, c3, g, to, vk, kept, vx, rfl, h3, h5, hs, hr⟩
  exact ⟨_, _, ⟨rfl, rfl⟩, le_tup1 (GX.le hr hs h5 h3)⟩
end Go.Ab
end
section
namespace Go.Ab
def ownV (b : IBk) (v : IVl) : Bool := decide ((b.op v.val.toNat).code = 1) && decide (((b.op v.val.toNat).imm.toNat : Int) = v.reg)
structure KpOk (b : IBk) (kp : Nat → Bool) : Prop where
 acts : ∀ k, k < b.ops.length → 4 ≤ (b.op k).code → kp k = true
 to : ∀ n, n < b.exits.length → namedX b.ops b.last n = true → (b.ex n).to ≠ -1 → kp (b.ex n).to.toNat = true
 map : ∀ n, n < b.exits.length → namedX b.ops b.last n = true → ∀ v ∈ (b.ex n).map, ownV b v = false → kp v.val.toNat = true
 a : ∀ k, k < b.ops.length → kp k = true → 3 ≤ (b.op k).code → kp (b.op k).a.toNat = true
 b : ∀ k, k < b.ops.length → kp k = true → (b.op k).code = 3 ∨ 5 ≤ (b.op k).code → kp (b.op k).b.toNat = true
def upk (kp : Nat → Bool) (n : Nat) : List Int := (List.range n).map fun i => (plN kp i : Int)
theorem upk_get {kp : Nat → Bool} {n i : Nat} (h : i < n) : (upk kp n).getD i 0 = (plN kp i : Int) := by simp [upk, h]
def keptO (kp : Nat → Bool) (b : IBk) (n : Nat) : List IOp := ((List.range n).filter kp).map fun k => ren (upk kp b.ops.length) (b.op k)
def trE (b : IBk) (to : List Int) (e : IEx) : IEx := renE to { e with map := e.map.filter fun v => !ownV b v }
def IBk.dd (b : IBk) (kp : Nat → Bool) : IBk := prB b.pcs (keptO kp b b.ops.length) b.exits b.last (trE b (upk kp b.ops.length))
theorem keptO_len (kp : Nat → Bool) (b : IBk) (n : Nat) : (keptO kp b n).length = plN kp n := by simp [keptO, plN]
theorem keptO_succ (kp : Nat → Bool) (b : IBk) (n : Nat) : keptO kp b (n + 1) = if kp n then keptO kp b n ++ [ren (upk kp b.ops.length) (b.op n)] else keptO kp b n := by
 rw [keptO, keptO, List.range_succ, List.filter_append, List.map_append]
 cases h : kp n <;> simp [h]
theorem keptO_at {kp : Nat → Bool} {b : IBk} {n k : Nat} (hk : k < n) (hm : kp k = true) : (keptO kp b n).getD (plN kp k) IOp.zero = ren (upk kp b.ops.length) (b.op k) := by
 rw [List.getD_eq_getElem?_getD, keptO, List.getElem?_map, filt_at kp hk hm]
 rfl
section
variable {b : IBk} {kp : Nat → Bool}
theorem kept_vin (hk : KpOk b kp) {j : Nat} (hj : j ≤ b.ops.length) {n : Int} (h : vin b.ops j n) (hm : kp n.toNat = true) : vin (keptO kp b b.ops.length) (plN kp j) ((upk kp b.ops.length).getD n.toNat 0) := by
 obtain ⟨h1, h2, h3, h4⟩ := h
 rw [upk_get (by omega)]
 have hlt := plN_lt kp (show n.toNat < j by omega) hm
 have hmo := plN_mono kp hj
 refine ⟨by omega, by omega, by rw [keptO_len]; omega, ?_⟩
 rw [Int.toNat_natCast, keptO_at (by omega) hm]
 unfold valued at h4 ⊢
 rw [ren_code]
 exact h4
theorem named_kept (hk : KpOk b kp) (n : Nat) : namedX (keptO kp b b.ops.length) b.last n = namedX b.ops b.last n := by
 unfold namedX
 congr 1
 rw [Bool.eq_iff_iff, List.any_eq_true, List.any_eq_true]
 constructor
 ·rintro ⟨o, h1, h2⟩
  simp only [keptO, List.mem_map, List.mem_filter, List.mem_range] at h1
  obtain ⟨k, ⟨h3, _⟩, rfl⟩ := h1
  refine ⟨b.op k, ?_, ?_⟩
  ·have : b.op k = b.ops[k] := by simp [IBk.op, h3]
   rw [this]; exact List.getElem_mem h3
  ·rw [ren_code, (ren_xy _ _).1, (ren_xy _ _).2.1] at h2
   exact h2
 ·rintro ⟨o, h1, h2⟩
  obtain ⟨k, hk2, rfl⟩ := List.getElem_of_mem h1
  have e : b.ops[k] = b.op k := by simp [IBk.op, hk2]
  rw [e] at h2
  refine ⟨ren (upk kp b.ops.length) (b.op k), ?_, ?_⟩
  ·simp only [keptO, List.mem_map, List.mem_filter, List.mem_range]
   refine ⟨k, ⟨hk2, hk.acts k hk2 ?_⟩, rfl⟩
   simp only [Bool.or_eq_true, Bool.and_eq_true, decide_eq_true_eq] at h2
   rcases h2 with h | h <;> omega
  ·rw [ren_code, (ren_xy _ _).1, (ren_xy _ _).2.1]
   exact h2
theorem dd_exAt (hc : b.check = 0) (hk : KpOk b kp) {j : Nat} (hj : j ≤ b.ops.length) {x : Int} (h : b.exit x j = true) (hn : namedX b.ops b.last x.toNat = true) : exAt (keptO kp b b.ops.length) b.exits (trE b (upk kp b.ops.length)) (plN kp j) x := by
 obtain ⟨⟨h1, h2⟩, h3, h4⟩ := exit_parts h
 have he : b.exits.getD x.toNat IEx.zero = b.ex x.toNat := rfl
 refine ⟨⟨h1, h2⟩, ?_, fun v hv => ?_⟩
 ·rw [he]
  rcases h3 with h | h
  ·left; simp only [trE, renE]; rw [if_pos h]
  ·right
   have hne : (b.ex x.toNat).to ≠ -1 := by have := h.1; omega
   simp only [trE, renE, if_neg hne]
   exact kept_vin hk hj h (hk.to _ (by omega) hn hne)
 ·rw [he] at hv
  simp only [trE, renE, List.mem_map, List.mem_filter] at hv
  obtain ⟨w, ⟨hw, ho⟩, rfl⟩ := hv
  exact kept_vin hk hj (h4 w hw) (hk.map _ (by omega) hn w hw (by simpa using ho))
theorem reg_pairs (e : IEx) : (∀ i, i < e.map.length → regN e i = true) ↔ (∀ v ∈ e.map, 1 ≤ v.reg ∧ v.reg ≤ 31) ∧ e.map.Pairwise fun u v => u.reg < v.reg := by
 have hvl : ∀ i (hi : i < e.map.length), e.vl i = e.map[i] := fun i hi => by simp [IEx.vl, hi]
 constructor
 ·intro h
  refine ⟨fun v hv => ?_, ?_⟩
  ·obtain ⟨i, hi, rfl⟩ := List.getElem_of_mem hv
   have := (regN_iff e i).1 (h i hi)
   rw [hvl i hi] at this
   exact ⟨this.1, this.2.1⟩
  ·rw [List.pairwise_iff_getElem]
   have step : ∀ i, i + 1 < e.map.length → (e.vl i).reg < (e.vl (i + 1)).reg := fun i hi => by
    have := (regN_iff e (i + 1)).1 (h (i + 1) hi)
    rcases this.2.2 with q | q
    ·omega
    ·simpa using q
   intro i j hi hj hij
   rw [← hvl i hi, ← hvl j hj]
   induction j with
   | zero => omega
   | succ j ih =>
    by_cases q : i = j
    ·subst q; exact step i hj
    ·have := ih (by omega) (by omega)
     have := step j hj
     omega
 ·rintro ⟨h1, h2⟩ i hi
  rw [regN_iff, hvl i hi]
  obtain ⟨q1, q2⟩ := h1 _ (List.getElem_mem hi)
  refine ⟨q1, q2, ?_⟩
  by_cases h0 : i = 0
  ·exact .inl h0
  ·right
   rw [hvl (i - 1) (by omega)]
   exact List.pairwise_iff_getElem.1 h2 (i - 1) i (by omega) hi (by omega)
theorem leafK_tr {n : Nat} {e : IEx} (t : List Int) (h : leafK n e) : leafK n (trE b t e) := by
 refine leafK_ren t ?_
 obtain ⟨h1, h2, h3, h4, h5, h6⟩ := h
 obtain ⟨q1, q2⟩ := (reg_pairs e).1 h6
 exact ⟨h1, h2, h3, h4, h5, (reg_pairs _).2 ⟨fun v hv => q1 v ((List.mem_filter.1 hv).1), q2.filter _⟩⟩
theorem dd_check (hc : b.check = 0) (hk : KpOk b kp) : (b.dd kp).check = 0 := by
 obtain ⟨hp1, hp2, hp3, hp4, hp5⟩ := long_parts hc
 have hp := right_parts hc
 have hlen := keptO_len kp b b.ops.length
 have hple : plN kp b.ops.length ≤ b.ops.length := by
  rw [plN]
  have := List.length_filter_le kp (List.range b.ops.length)
  simpa using this
 have src : ∀ j, j < (keptO kp b b.ops.length).length → ∃ k, k < b.ops.length ∧ kp k = true ∧ plN kp k = j ∧ (keptO kp b b.ops.length).getD j IOp.zero = ren (upk kp b.ops.length) (b.op k) := by
  intro j hj
  rw [hlen] at hj
  obtain ⟨k, h1, h2, h3⟩ := filt_src kp hj
  exact ⟨k, h1, h2, h3, by rw [← h3]; exact keptO_at h1 h2⟩
 have hla : b.exit b.last b.ops.length = true := by
  have := chk_right hc
  simp only [IBk.right, Bool.and_eq_true] at this
  exact this.2
 have hln : namedX b.ops b.last b.last.toNat = true := by
  unfold namedX
  rw [Bool.or_eq_true, decide_eq_true_eq]
  left
  have := (exit_parts hla).1.1
  omega
 have hx : ∀ j, j < (keptO kp b b.ops.length).length → ∀ x, takes ((keptO kp b b.ops.length).getD j IOp.zero) x → exAt (keptO kp b b.ops.length) b.exits (trE b (upk kp b.ops.length)) j x := by
  intro j hj x ht
  obtain ⟨k, h1, h2, h3, h4⟩ := src j hj
  rw [h4] at ht
  unfold takes at ht
  rw [ren_code, (ren_xy _ _).1, (ren_xy _ _).2.1] at ht
  have hex := opR_takes (hp.1 k h1) ht
  rw [← h3]
  refine dd_exAt hc hk (by omega) hex ?_
  have hmem : b.op k ∈ b.ops := by
   have : b.op k = b.ops[k] := by simp [IBk.op, h1]
   rw [this]; exact List.getElem_mem h1
  exact takes_named hmem ht (exit_parts hex).1.1
 have hlast := dd_exAt hc hk (Nat.le_refl _) hla hln
 rw [← hlen] at hlast
 refine pr_check hp4 hp1 hp5 (by omega) hp3 (fun j hj => ?_) (fun j hj => ?_) hx hlast (fun n hn hnm => ⟨leafK_tr _ (leafK_of (hp.2 n hn)), ?_⟩)
 ·obtain ⟨k, h1, h2, h3, h4⟩ := src j hj
  rw [h4]
  have hg : goodAt b.ops k (b.op k) := good_of (hp.1 k h1)
  have hcode := ren_code (upk kp b.ops.length) (b.op k)
  constructor
  ·intro c
   rw [hcode] at c
   obtain ⟨g1, g2⟩ := hg.1 c
   unfold ren
   rw [if_pos c, ← h3]
   exact ⟨kept_vin hk (by omega) g1 (hk.a k h1 h2 (by omega)), kept_vin hk (by omega) g2 (hk.b k h1 h2 (by omega))⟩
  ·intro c
   rw [hcode] at c
   have g1 := hg.2 c
   unfold ren
   rw [if_neg (by omega), if_pos c, ← h3]
   exact kept_vin hk (by omega) g1 (hk.a k h1 h2 (by omega))
 ·obtain ⟨k, h1, h2, h3, h4⟩ := src j hj
  rw [h4, opK_ren]
  exact opK_of (hp.1 k h1)
 ·unfold namedX at hnm
  rw [Bool.or_eq_true, List.any_eq_true, decide_eq_true_eq] at hnm
  rcases hnm with h | ⟨o, h1, h2⟩
  ·rw [← h]; exact hlast
  ·simp only [Bool.or_eq_true, Bool.and_eq_true, decide_eq_true_eq] at h2
   obtain ⟨j, hj, rfl⟩ := List.getElem_of_mem h1
   have e4 : (keptO kp b b.ops.length)[j] = (keptO kp b b.ops.length).getD j IOp.zero := by simp [hj]
   rw [e4] at h2
   exact exAt_mono (hx j hj n h2) (by omega)
structure DdI (b : IBk) (kp : Nat → Bool) (regs : List (BitVec 32)) (k : Nat) (vals vals' : List (BitVec 32)) : Prop where
 n1 : vals.length = k
 n2 : vals'.length = plN kp k
 eq : ∀ i : Nat, i < k → kp i = true → lv vals' (plN kp i : Int) = lv vals i
 inn : ∀ i : Nat, i < k → (b.op i).code = 1 → lv vals i = regs.getD (b.op i).imm.toNat 0#32
end
end Go.Ab
end
section
namespace Go.Ab
open Go.Proofs
variable {G : Glo} {h : Heap}
def MkO (g : Heap) (b3 b4 : Nat) (fv : AV) (vo vx : AV) (mo mx : List Bool) (h : Heap) : Prop :=
 b3 ≠ b4 ∧ ∃ h1, Own 1 (Ab.upd (Ab.upd g b3 ⟨[vo, vx], 0⟩) b4 ⟨[fv], 0⟩) vo (mo.map .bool) mo.length h1 ∧ Own 1 h1 vx (mx.map .bool) mx.length h
section
variable {g : Heap} {b3 b4 : Nat} {fv vo vx : AV} {mo mx : List Bool}
theorem MkO.at (hr : MkO g b3 b4 fv vo vx mo mx h) : h b3 = some ⟨[vo, vx], 0⟩ ∧ h b4 = some ⟨[fv], 0⟩ ∧ Sub (Ab.upd (Ab.upd g b3 ⟨[vo, vx], 0⟩) b4 ⟨[fv], 0⟩) h := by
 obtain ⟨hn, h1, o1, o2⟩ := hr
 exact ⟨o2.get (o1.get (by rw [upd_ne hn]; exact upd_same _ _ _)), o2.get (o1.get (upd_same _ _ _)), o1.sub.trans o2.sub⟩
theorem MkO.ops (hr : MkO g b3 b4 fv vo vx mo mx h) (hl : 0 < mo.length) : ∃ bo pre cap sp, vo = .sl bo pre.length mo.length cap ∧ h bo = some ⟨pre ++ mo.map .bool, sp⟩ ∧ bo ≠ b3 ∧ bo ≠ b4 ∧ ∀ mo', mo'.length = mo.length → MkO g b3 b4 fv vo vx mo' mx (Ab.upd h bo ⟨pre ++ mo'.map .bool, sp⟩) := by
 obtain ⟨hn, h1, o1, o2⟩ := hr
 obtain ⟨bo, pre, cap, sp, e1, e2, e3, e4⟩ := own_lie o1 hl
 have n := upd_none e3
 refine ⟨bo, pre, cap, sp, e1, o2.get e2, (upd_none n.2).1, n.1, fun mo' hl' => ⟨hn, _, ?_, o2.upd (.inr ⟨_, e2⟩)⟩⟩
 rw [hl']
 exact e4 _ (by simp [hl'])
theorem MkO.exits (hr : MkO g b3 b4 fv vo vx mo mx h) (hl : 0 < mx.length) : ∃ bx pre cap sp, vx = .sl bx pre.length mx.length cap ∧ h bx = some ⟨pre ++ mx.map .bool, sp⟩ ∧ bx ≠ b3 ∧ bx ≠ b4 ∧ ∀ mx', mx'.length = mx.length → MkO g b3 b4 fv vo vx mo mx' (Ab.upd h bx ⟨pre ++ mx'.map .bool, sp⟩) := by
 obtain ⟨hn, h1, o1, o2⟩ := hr
 obtain ⟨bx, pre, cap, sp, e1, e2, e3, e4⟩ := own_lie o2 hl
 have n := upd_none (o1.sub.none e3)
 refine ⟨bx, pre, cap, sp, e1, e2, (upd_none n.2).1, n.1, fun mx' hl' => ⟨hn, _, o1, ?_⟩⟩
 rw [hl']
 exact e4 _ (by simp [hl'])
end
theorem bools_get (pre : List AV) (l : List Bool) (i : Nat) (hi : i < l.length) : (pre ++ l.map AV.bool)[pre.length + i]? = some (AV.bool (l.getD i false)) := by
 rw [List.getElem?_append_right (by omega), Nat.add_sub_cancel_left]
 simp [hi]
theorem bools_set (pre : List AV) (l : List Bool) (i : Nat) (x : Bool) : (pre ++ l.map AV.bool).set (pre.length + i) (AV.bool x) = pre ++ (l.set i x).map AV.bool := by
 rw [List.set_append_right _ _ (by omega), Nat.add_sub_cancel_left, List.map_set]
def Closed (b : IBk) (S : Nat → Prop) : Prop := ∀ j, j < b.ops.length → S j → ∀ u ∈ usesN (b.op j), S u.toNat
structure AskP (b : IBk) (k : Nat) (mo mo' : List Bool) : Prop where
 len : mo'.length = mo.length
 mono : ∀ j, mo.getD j false = true → mo'.getD j false = true
 self : mo'.getD k false = true
 uses : ∀ j, mo'.getD j false = true → mo.getD j false = true ∨ ∀ u ∈ usesN (b.op j), mo'.getD u.toNat false = true
 least : ∀ S, Closed b S → S k → ∀ j, mo'.getD j false = true → mo.getD j false = true ∨ S j
theorem getD_setB (l : List Bool) (i j : Nat) (x : Bool) : (l.set i x).getD j false = if i = j ∧ j < l.length then x else l.getD j false := by
 rw [List.getD_eq_getElem?_getD, List.getElem?_set]
 by_cases e : i = j
 ·subst e
  by_cases hl : i < l.length
  ·rw [if_pos rfl, if_pos hl, if_pos ⟨rfl, hl⟩]; rfl
  ·rw [if_pos rfl, if_neg hl, if_neg (fun c => hl c.2), List.getD_eq_getElem?_getD, List.getElem?_eq_none (by omega)]
 ·rw [if_neg e, if_neg (fun c => e c.1), List.getD_eq_getElem?_getD]
theorem askop_spec {g : Heap} {b3 b4 : Nat} {vo vx : AV} {mx : List Bool} (b : IBk) (hw : b.wf) (hc : b.check = 0) : ∀ (k : Nat) (mo : List Bool) (h : Heap), k < b.ops.length → mo.length = b.ops.length → MkO g b3 b4 (.fn 138 [] [.ptr b3 0, .cp [bkP b] 0, .ptr b4 0]) vo vx mo mx h →
  Spec Tryz.prog G 138 [.int .i64 k, .ptr b3 0, .cp [bkP b] 0, .ptr b4 0] h (fun _ h' => ∃ mo', AskP b k mo mo' ∧ MkO g b3 b4 (.fn 138 [] [.ptr b3 0, .cp [bkP b] 0, .ptr b4 0]) vo vx mo' mx h') := by
 obtain ⟨hops, hexs⟩ := right_parts hc
 obtain ⟨hs1, hs2, hs3⟩ := hw.hs
 intro k
 induction k using Nat.strongRecOn with
 | ind k ih =>
 intro mo h hk hl hr
 obtain ⟨hb3, hb4, _⟩ := hr.at
 obtain ⟨bo, pre, cap, sp, hvo, hbo, n3, n4, put⟩ := hr.ops (by omega)
 rw [hl] at hvo
 subst hvo
 have hget := bools_get pre mo k (by omega)
 have hsetk := bools_set pre mo k true
 have hll : (pre ++ mo.map AV.bool).length = pre.length + mo.length := by simp
 refine Spec.walk C138ok rfl ?_
 cases hm : mo.getD k false with
 | true =>
  rw [hm] at hget
  simp only [push_cast, simprocAttr, hb3, hbo, hl, hk, hget]
  exact ⟨mo, ⟨rfl, fun _ h => h, hm, fun _ h => .inl h, fun _ _ _ _ h => .inl h⟩, hr⟩
 | false =>
  rw [hm] at hget
  have hr1 := put (mo.set k true) (by simp)
  obtain ⟨kb3, kb4, _⟩ := hr1.at
  simp (disch := omega) only [push_cast, simprocAttr, wrap_i64, toNat_ofInt64, Nat.min_eq_left, Int.toNat_of_nonneg, hb3, hbo, hl, hk, hget, hsetk, hll]
  have hO : b.op k = b.ops.getD k IOp.zero := rfl
  have hu : ∀ u ∈ usesN (b.op k), 0 ≤ u ∧ u < k := by
   intro u hu
   have hg := good_of (hops k hk)
   rw [← hO] at hg
   unfold usesN at hu
   split at hu
   ·rename_i c
    obtain ⟨⟨a1, a2, _⟩, c1, c2, _⟩ := hg.1 c
    simp only [List.mem_cons, List.not_mem_nil, or_false] at hu
    rcases hu with rfl | rfl
    ·exact ⟨a1, a2⟩
    ·exact ⟨c1, c2⟩
   ·split at hu
    ·rename_i c
     obtain ⟨a1, a2, _⟩ := hg.2 c
     simp only [List.mem_cons, List.not_mem_nil, or_false] at hu
     subst hu
     exact ⟨a1, a2⟩
    ·simp at hu
  rw [← hO]
  have hul := usesN_len (b.op k)
  refine ⟨by omega, (Uses_spec (b.op k)).to ?_⟩
  simp only [push_cast, simprocAttr]
  have hgs := fun j => getD_setB mo k j true
  generalize hmo1 : mo.set k true = mo1 at *
  have hl1 : mo1.length = b.ops.length := by rw [← hmo1, List.length_set]; exact hl
  generalize hus : usesN (b.op k) = us at *
  refine lpc.rel [3, 23, 24, 25] (fun m ρ h' => ∃ (i : Nat) (mi : List Bool), m = us.length - i ∧ i ≤ us.length ∧ mi.length = b.ops.length ∧ (∀ j, mo1.getD j false = true → mi.getD j false = true) ∧ (∀ t, t < i → mi.getD (us.getD t 0).toNat false = true) ∧
   (∀ j, mi.getD j false = true → mo1.getD j false = true ∨ ∀ u ∈ usesN (b.op j), mi.getD u.toNat false = true) ∧ (∀ S, Closed b S → S k → ∀ j, mi.getD j false = true → mo1.getD j false = true ∨ S j) ∧
   MkO g b3 b4 (.fn 138 [] [.ptr b3 0, .cp [bkP b] 0, .ptr b4 0]) (.sl bo pre.length b.ops.length cap) vx mi mx h' ∧ ρ = [(3, .ptr b4 0), (23, ints us), (24, .int .i64 (us.length : Int)), (25, .int .i64 (i : Int))])
   ⟨_, 0, mo1, rfl, by omega, hl1, fun _ h => h, fun t h => by omega, fun _ h => .inl h, fun _ _ _ _ h => .inl h, hr1, rfl⟩ ?_
  rintro m _ h2 ⟨i, mi, rfl, hi, hli, p1, p2, p3, p4, hri, rfl⟩
  by_cases hi2 : i < us.length
  ·have hmem : us.getD i 0 ∈ us := by rw [List.getD_eq_getElem?_getD, List.getElem?_eq_getElem hi2]; simp
   obtain ⟨u0, u1⟩ := hu _ hmem
   have heq : (us.getD i 0) = ((us.getD i 0).toNat : Int) := by omega
   have hI := ih (us.getD i 0).toNat (by omega) mi h2 (by omega) hli hri
   rw [← heq] at hI
   obtain ⟨_, jb4, _⟩ := hri.at
   simp only [push_cast, simprocAttr, hi2, jb4]
   refine ⟨⟨_, C138ok.hf, rfl, rfl⟩, hI.mono ?_⟩
   rintro _ h6 ⟨mj, ha, hrj⟩
   simp (disch := omega) only [push_cast, simprocAttr, wrap_i64, toNat_ofInt64, Nat.min_eq_left, Int.toNat_of_nonneg]
   refine ⟨_, _, by omega, .refl _, i + 1, mj, rfl, by omega, by rw [ha.len]; exact hli, fun j h => ha.mono j (p1 j h), fun t ht => ?_, fun j hj => ?_, fun S hS hk' j hj => ?_, hrj, rfl⟩
   ·by_cases e : t = i
    ·rw [e]; exact ha.self
    ·exact ha.mono _ (p2 t (by omega))
   ·rcases ha.uses j hj with h | h
    ·rcases p3 j h with h | h
     ·exact .inl h
     ·exact .inr fun u hu => ha.mono _ (h u hu)
    ·exact .inr h
   ·rcases ha.least S hS (hS k hk hk' _ (by rw [hus]; exact hmem)) j hj with h | h
    ·exact p4 S hS hk' j h
    ·exact .inr h
  ·obtain rfl : i = us.length := by omega
   simp only [push_cast, simprocAttr, hi2]
   have hk1 : mo1.getD k false = true := by rw [hgs, if_pos ⟨rfl, by omega⟩]
   have hsub : ∀ j, mo1.getD j false = true → mo.getD j false = true ∨ j = k := fun j h => by
    rw [hgs] at h
    by_cases e : k = j
    ·exact .inr e.symm
    ·rw [if_neg (fun c => e c.1)] at h; exact .inl h
   have hall : ∀ u ∈ us, mi.getD u.toNat false = true := by
    intro u hu
    obtain ⟨t, ht, rfl⟩ := List.getElem_of_mem hu
    have := p2 t ht
    rw [show us.getD t 0 = us[t] by simp [ht]] at this
    exact this
   refine ⟨mi, ⟨by rw [hli, hl], fun j h => p1 j ?_, p1 k hk1, fun j hj => ?_, fun S hS hk' j hj => ?_⟩, hri⟩
   ·rw [hgs]; split
    ·rfl
    ·exact h
   ·rcases p3 j hj with h | h
    ·rcases hsub j h with h | rfl
     ·exact .inl h
     ·exact .inr (by rw [hus]; exact hall)
    ·exact .inr h
   ·rcases p4 S hS hk' j hj with h | h
    ·rcases hsub j h with h | rfl
     ·exact .inl h
     ·exact .inr hk'
    ·exact .inr h
end Go.Ab
end
section
namespace Go.Ab
open Go.Proofs
variable {G : Glo} {h : Heap}
theorem own_spec (b : IBk) (v : IVl) (h0 : 0 ≤ v.val) (h1 : v.val < b.ops.length) : Spec Tryz.prog G 140 [bkP b, .agg v.cells] h (Is (.bool (ownV b v)) h) := by
 have q : v.val.toNat < b.ops.length := by omega
 have hO : ownV b v = (decide ((b.ops.getD v.val.toNat IOp.zero).code = 1) && decide (((b.ops.getD v.val.toNat IOp.zero).imm.toNat : Int) = v.reg)) := rfl
 rw [hO]
 refine Spec.is C140ok rfl ?_
 generalize hg : b.ops.getD v.val.toNat IOp.zero = o
 have hw : IntKind.i64.wrap (o.imm.toNat : Int) = o.imm.toNat := wrap_i64 (by omega) (by omega)
 simp (disch := omega) only [push_cast, simprocAttr, wrap_i64, toNat_ofInt64, Nat.min_eq_left, Int.toNat_of_nonneg, h0, h1, q, hg]
 intro c hc
 by_cases c1 : o.code = 1
 ·simp only [push_cast, simprocAttr, c1, hw]
  exact ⟨rfl, sub_upd hc (.refl _)⟩
 ·simp only [push_cast, simprocAttr, c1]
  exact ⟨by rw [show (o.code == 1) = false from by simpa using c1]; rfl, sub_upd hc (.refl _)⟩
structure ExP (b : IBk) (n : Nat) (mo mo' : List Bool) : Prop where
 len : mo'.length = mo.length
 mono : ∀ j, mo.getD j false = true → mo'.getD j false = true
 to : (b.ex n).to ≠ -1 → mo'.getD (b.ex n).to.toNat false = true
 map : ∀ v ∈ (b.ex n).map, ownV b v = false → mo'.getD v.val.toNat false = true
 uses : ∀ j, mo'.getD j false = true → mo.getD j false = true ∨ ∀ u ∈ usesN (b.op j), mo'.getD u.toNat false = true
 least : ∀ S, Closed b S → ((b.ex n).to ≠ -1 → S (b.ex n).to.toNat) → (∀ v ∈ (b.ex n).map, ownV b v = false → S v.val.toNat) → ∀ j, mo'.getD j false = true → mo.getD j false = true ∨ S j
abbrev opFn (b : IBk) (b3 b4 : Nat) : AV := .fn 138 [] [.ptr b3 0, .cp [bkP b] 0, .ptr b4 0]
theorem askex_spec {g : Heap} {b3 b4 : Nat} {vo vx : AV} {mx mo : List Bool} (b : IBk) (hw : b.wf) (hc : b.check = 0) {n j0 : Nat} (hx : b.exit n j0 = true) (hl : mo.length = b.ops.length) (hlx : mx.length = b.exits.length) (hr : MkO g b3 b4 (opFn b b3 b4) vo vx mo mx h) :
  Spec Tryz.prog G 139 [.int .i64 n, .ptr b3 0, .cp [bkP b] 0, .ptr b4 0] h (fun _ h' => ∃ mo', ExP b n mo mo' ∧ MkO g b3 b4 (opFn b b3 b4) vo vx mo' (mx.set n true) h') := by
 obtain ⟨hops, hexs⟩ := right_parts hc
 obtain ⟨hs1, hs2, hs3⟩ := hw.hs
 obtain ⟨⟨_, hn⟩, hto, hmap⟩ := exit_parts hx
 have hn' : n < b.exits.length := by omega
 have hex : b.ex ((n : Int)).toNat = b.exits.getD n IEx.zero := rfl
 have hex2 : b.ex n = b.exits.getD n IEx.zero := rfl
 rw [hex] at hto hmap
 have hml := getD_map (n := n) hs3
 have hvin : ∀ x, vin b.ops j0 x → 0 ≤ x ∧ x.toNat < b.ops.length := fun x ⟨a, _, c, _⟩ => ⟨a, by omega⟩
 obtain ⟨hb3, hb4, _⟩ := hr.at
 obtain ⟨bx, pre, cap, sp, hvx, hbx, n3, n4, put⟩ := hr.exits (by omega)
 rw [hlx] at hvx
 subst hvx
 have hsetn := bools_set pre mx n true
 have hll : (pre ++ mx.map AV.bool).length = pre.length + mx.length := by simp
 have hr1 := put (mx.set n true) (by simp)
 obtain ⟨kb3, kb4, _⟩ := hr1.at
 have tail : ∀ (e : IEx) (mo1 : List Bool) (h1 : Heap), b.exits.getD n IEx.zero = e → mo1.length = b.ops.length → MkO g b3 b4 (opFn b b3 b4) vo (.sl bx pre.length b.exits.length cap) mo1 (mx.set n true) h1 → (∀ j, mo.getD j false = true → mo1.getD j false = true) → (e.to ≠ -1 → mo1.getD e.to.toNat false = true) →
   (∀ j, mo1.getD j false = true → mo.getD j false = true ∨ ∀ u ∈ usesN (b.op j), mo1.getD u.toNat false = true) → (∀ S, Closed b S → (e.to ≠ -1 → S e.to.toNat) → ∀ j, mo1.getD j false = true → mo.getD j false = true ∨ S j) →
   wpc Tryz.prog G Tryz.f139.ntmps C139_23 (retQ C139r (fun _ h' => ∃ mo', ExP b n mo mo' ∧ MkO g b3 b4 (opFn b b3 b4) vo (.sl bx pre.length b.exits.length cap) mo' (mx.set n true) h')) [(2, .cp [bkP b] 0), (3, .ptr b4 0), (5, .cp e.cells 0)] h1 := by
  intro e mo1 h1 he hl1 hr1 p1 p2 p3 p4
  rw [he] at hmap hml
  have hem : ∀ v ∈ e.map, 0 ≤ v.val ∧ v.val < b.ops.length := fun v hv => by have := hvin _ (hmap v hv); omega
  simp only [push_cast, simprocAttr]
  refine lpc.rel [2, 3, 27, 28, 29] (fun m ρ h' => ∃ (i : Nat) (mi : List Bool), m = e.map.length - i ∧ i ≤ e.map.length ∧ mi.length = b.ops.length ∧ (∀ j, mo.getD j false = true → mi.getD j false = true) ∧ (e.to ≠ -1 → mi.getD e.to.toNat false = true) ∧
   (∀ t, t < i → ownV b (e.map.getD t IVl.zero) = false → mi.getD (e.map.getD t IVl.zero).val.toNat false = true) ∧
   (∀ j, mi.getD j false = true → mo.getD j false = true ∨ ∀ u ∈ usesN (b.op j), mi.getD u.toNat false = true) ∧ (∀ S, Closed b S → (e.to ≠ -1 → S e.to.toNat) → (∀ v ∈ e.map, ownV b v = false → S v.val.toNat) → ∀ j, mi.getD j false = true → mo.getD j false = true ∨ S j) ∧
   MkO g b3 b4 (opFn b b3 b4) vo (.sl bx pre.length b.exits.length cap) mi (mx.set n true) h' ∧ ρ = [(2, .cp [bkP b] 0), (3, .ptr b4 0), (27, vls e.map), (28, .int .i64 (e.map.length : Int)), (29, .int .i64 (i : Int))])
   ⟨_, 0, mo1, rfl, by omega, hl1, p1, p2, fun t h => by omega, p3, fun S a b _ => p4 S a b, hr1, rfl⟩ ?_
  rintro m _ h2 ⟨i, mi, rfl, hi, hli, q1, q2, q3, q4, q5, hri, rfl⟩
  by_cases hi2 : i < e.map.length
  ·have hmem : e.map.getD i IVl.zero ∈ e.map := by rw [List.getD_eq_getElem?_getD, List.getElem?_eq_getElem hi2]; simp
   obtain ⟨u0, u1⟩ := hem _ hmem
   obtain ⟨_, jb4, _⟩ := hri.at
   generalize hv : e.map.getD i IVl.zero = v at *
   simp only [push_cast, simprocAttr, hi2, hv]
   intro c' hc'
   rw [era_none hc']
   refine (own_spec b v u0 u1).to ?_
   cases ho : ownV b v with
   | true =>
    simp (disch := omega) only [push_cast, simprocAttr, wrap_i64, toNat_ofInt64, Nat.min_eq_left, Int.toNat_of_nonneg]
    refine ⟨_, _, by omega, .refl _, i + 1, mi, rfl, by omega, hli, q1, q2, fun t ht hf => ?_, q4, q5, hri, rfl⟩
    by_cases et : t = i
    ·rw [et, hv, ho] at hf; cases hf
    ·exact q3 t (by omega) hf
   | false =>
    have heq : v.val = (v.val.toNat : Int) := by omega
    have hI := askop_spec (G := G) b hw hc v.val.toNat mi h2 (by omega) hli hri
    rw [← heq] at hI
    simp only [push_cast, simprocAttr, jb4]
    refine ⟨⟨_, C138ok.hf, rfl, rfl⟩, hI.mono ?_⟩
    rintro _ h6 ⟨mj, ha, hrj⟩
    simp (disch := omega) only [push_cast, simprocAttr, wrap_i64, toNat_ofInt64, Nat.min_eq_left, Int.toNat_of_nonneg]
    refine ⟨_, _, by omega, .refl _, i + 1, mj, rfl, by omega, by rw [ha.len]; exact hli, fun j h => ha.mono j (q1 j h), fun h => ha.mono _ (q2 h), fun t ht hf => ?_, fun j hj => ?_, fun S hS h1 h2 j hj => ?_, hrj, rfl⟩
    ·by_cases et : t = i
     ·rw [et, hv]; exact ha.self
     ·exact ha.mono _ (q3 t (by omega) hf)
    ·rcases ha.uses j hj with h | h
     ·rcases q4 j h with h | h
      ·exact .inl h
      ·exact .inr fun u hu => ha.mono _ (h u hu)
     ·exact .inr h
    ·rcases ha.least S hS (h2 v hmem ho) j hj with h | h
     ·exact q5 S hS h1 h2 j h
     ·exact .inr h
  ·obtain rfl : i = e.map.length := by omega
   simp only [push_cast, simprocAttr, hi2]
   have he2 : b.ex n = e := by rw [hex2, he]
   refine ⟨mi, ⟨by rw [hli, hl], q1, by rw [he2]; exact q2, ?_, q4, by rw [he2]; exact q5⟩, hri⟩
   rw [he2]
   intro v hv ho
   obtain ⟨t, ht, rfl⟩ := List.getElem_of_mem hv
   have e1 : e.map.getD t IVl.zero = e.map[t] := by simp [ht]
   have := q3 t ht (by rw [e1]; exact ho)
   rw [e1] at this
   exact this
 refine Spec.walk C139ok rfl ?_
 show wpc _ _ _ (.seq [0, 2, 3] C139_0 (.seq [2, 3, 5] C139_1 (.fz 5 (.seq [2, 3, 5] C139_5 C139_23)))) _ _ _
 generalize C139_23 = Z at tail ⊢
 generalize he : b.exits.getD n IEx.zero = e at *
 have tail := tail e
 simp (disch := omega) only [push_cast, simprocAttr, wrap_i64, toNat_ofInt64, Nat.min_eq_left, Int.toNat_of_nonneg, hb3, hbx, hlx, hn', hsetn, hll, he]
 refine ⟨by omega, fun c' hc' => ?_⟩
 rw [era_none hc']
 by_cases ht : e.to = -1
 ·simp only [push_cast, simprocAttr, ht]
  exact tail mo _ rfl hl hr1 (fun _ h => h) (fun h => absurd ht h) (fun _ h => .inl h) (fun _ _ _ _ h => .inl h)
 ·obtain ⟨t0, t1⟩ := hvin _ (hto.resolve_left ht)
  have heq : e.to = (e.to.toNat : Int) := by omega
  have hI := askop_spec (G := G) b hw hc e.to.toNat mo _ t1 hl hr1
  rw [← heq] at hI
  simp only [push_cast, simprocAttr, ht, kb4]
  refine ⟨⟨_, C138ok.hf, rfl, rfl⟩, hI.mono ?_⟩
  rintro _ h6 ⟨mj, ha, hrj⟩
  simp only [push_cast, simprocAttr]
  exact tail mj _ rfl (by rw [ha.len]; exact hl) hrj ha.mono (fun _ => ha.self) ha.uses (fun S hS h1 j hj => ha.least S hS (h1 ht) j hj)
end Go.Ab
end
