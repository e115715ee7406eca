/- A frame for walks over what values stand for, part AbS. -/
import Derived.Test.YtknamhmjhmdikaaLib1
namespace Go.Ab
theorem partOf_none (cells : List AV) (off : Nat) : partOf cells off none = cells[off]? := rfl
theorem partOf_some (cells : List AV) (off n : Nat) : partOf cells off (some n) = if off + n ≤ cells.length then some (.agg ((cells.drop off).take n)) else none := rfl
@[push_cast] theorem gd_none (ρ : Env) (y n : Prop) : gd none ρ y n = y := rfl
@[push_cast] theorem gd_some (s : Nat) (w : Bool) (ρ : Env) (y n : Prop) : gd (some (s, w)) ρ y n = match lk ρ s with
    | .bool b => (b = w → y) ∧ (b ≠ w → n)
    | .tup _ => n
    | _ => False := rfl
def bindO {α : Type} (o : Option α) (k : α → Prop) : Prop :=
  match o with
  | some v => k v
  | none => False
@[push_cast] theorem bindO_some {α : Type} (v : α) (k : α → Prop) : bindO (some v) k = k v := by rw [bindO]
@[push_cast] theorem bindO_none {α : Type} (k : α → Prop) : bindO none k = False := by rw [bindO]
def callvQ (P : Program) (G : Glo) (args : List AV) (v : AV) (h : Heap) (Q : AV → Heap → Prop) : Prop :=
  match v with
  | .fn f first caps => callable P f ∧ Spec P G f (first ++ args ++ caps) h Q
  | .yl l => YOk P G ∧ G.y l args h Q
  | _ => False
@[push_cast] theorem callvQ_yl (P : Program) (G : Glo) (args : List AV) (l : Nat) (h : Heap) (Q : AV → Heap → Prop) : callvQ P G args (.yl l) h Q = (YOk P G ∧ G.y l args h Q) := by rw [callvQ]
@[push_cast] theorem callvQ_fn (P : Program) (G : Glo) (args : List AV) (f : Nat) (first caps : List AV) (h : Heap) (Q : AV → Heap → Prop) : callvQ P G args (.fn f first caps) h Q = (callable P f ∧ Spec P G f (first ++ args ++ caps) h Q) := by rw [callvQ]
def nilqQ (neg : Bool) (v : AV) (h : Heap) (Q : AV → Heap → Prop) : Prop :=
  match v with
  | .nils => Q (.bool (!neg)) h
  | .sl _ _ _ _ => Q (.bool neg) h
  | .ro _ n => (n = 0 → Q (.bool (!neg)) h) ∧ Q (.bool neg) h
  | _ => False
section
variable (neg : Bool) (h : Heap) (Q : AV → Heap → Prop) (b o n c : Nat) (cs : List AV)
@[push_cast] theorem nilqQ_nils : nilqQ neg .nils h Q = Q (.bool (!neg)) h := by rw [nilqQ]
@[push_cast] theorem nilqQ_sl : nilqQ neg (.sl b o n c) h Q = Q (.bool neg) h := by rw [nilqQ]
@[push_cast] theorem nilqQ_ro : nilqQ neg (.ro cs n) h Q = ((n = 0 → Q (.bool (!neg)) h) ∧ Q (.bool neg) h) := by rw [nilqQ]
end
section
variable (P : Program) (G : Glo) (ρ : Env) (h : Heap) (Q : AV → Heap → Prop) (x y : Operand) (n len sz bytes f : Nat) (cells : List AV) (parts : List (Nat × Nat × Operand)) (args : List Operand) (neg : Bool)
@[push_cast] theorem stE_asg : stE P G (.asg x) ρ h Q = Q (xv G ρ x) h := by rw [stE]
@[push_cast] theorem stE_alc : stE P G (.alc cells) ρ h Q = ∀ b, h b = none → Q (.ptr b 0) (upd h b ⟨cells, 0⟩) := by rw [stE]
@[push_cast] theorem stE_box : stE P G (.box x) ρ h Q = bindO (cellsOf (xv G ρ x)) fun cs => ∀ b, h b = none → Q (.ptr b 0) (upd h b ⟨cs, 0⟩) := by
  rw [stE]; cases cellsOf (xv G ρ x) <;> rfl
@[push_cast] theorem stE_bsl : stE P G (.bsl len cells parts) ρ h Q = bindO (afill (xv G ρ) cells parts) fun cs => ∀ b, h b = none → Q (.sl b 0 len len) (upd h b ⟨cs, 0⟩) := by
  rw [stE]; cases afill (xv G ρ) cells parts <;> rfl
@[push_cast] theorem stE_bxr : stE P G (.bxr x) ρ h Q = bindO (cellsOf (xv G ρ x)) fun cs => Q (.cp cs 0) h := by
  rw [stE]; cases cellsOf (xv G ρ x) <;> rfl
@[push_cast] theorem stE_bsr : stE P G (.bsr len cells parts) ρ h Q = bindO (afill (xv G ρ) cells parts) fun cs => (len = 0 → cs = []) ∧ Q (.ro cs len) h := by
  rw [stE]; cases afill (xv G ρ) cells parts <;> rfl
@[push_cast] theorem stE_st : stE P G (.st n x y) ρ h Q = bindO (asto h n (xv G ρ x) (cellsOf (xv G ρ y))) (Q (.tup [])) := by
  rw [stE]; cases asto h n (xv G ρ x) (cellsOf (xv G ρ y)) <;> rfl
@[push_cast] theorem stE_app : stE P G (.app sz bytes x y) ρ h Q = bindO (addedBy h sz (xv G ρ y)) fun p => appQ sz bytes p.1 p.2 (xv G ρ x) h Q := by
  rw [stE]; cases addedBy h sz (xv G ρ y) <;> rfl
@[push_cast] theorem stE_call : stE P G (.call f args) ρ h Q = Spec P G f (args.map (xv G ρ)) h Q := by rw [stE]
@[push_cast] theorem stE_callv : stE P G (.callv x args) ρ h Q = callvQ P G (args.map (xv G ρ)) (xv G ρ x) h Q := by
  unfold callvQ; rw [stE]; cases xv G ρ x <;> rfl
@[push_cast] theorem stE_nilq : stE P G (.nilq neg x) ρ h Q = nilqQ neg (xv G ρ x) h Q := by
  unfold nilqQ; rw [stE]; cases xv G ρ x <;> rfl
end
/-! Maps whose keys are numbers. -/
def fnd (k k' : IntKind) (n : Int) (es : Array MapEntry) : Option (Option (Nat × Value)) := Instr.findNow (.int k) (.int k' n) es.toList 0
def lkV (k : IntKind) (z : AV) (ok : Bool) (es : Array MapEntry) : AV → Option AV
  | .int k' n => (fnd k k' n es).map (lkA z ok)
  | _ => none
def eqmV (neg : Bool) : AV → Option AV
  | .mpp r => some (.bool (r.isNone != neg))
  | _ => none
def mupE (k' : IntKind) (n : Int) (c : Value) (es : Array MapEntry) (t : Nat) : Option (Nat × Value) → Obj
  | some (j, _) => .map (es.modify j fun e => { e with key := .int k' n, val := c }) t
  | none => .map (es.push { key := .int k' n, val := c, born := t }) (t + 1)
def mupP (k k' : IntKind) (n : Int) (b : Nat) (h : Heap) (Q : AV → Heap → Prop) (c : Value) (p : Array MapEntry × Nat) : Prop :=
  bindO (fnd k k' n p.1) fun r => Q (.tup []) (upd h b ⟨[.raw (mupE k' n c p.1 p.2 r)], 0⟩)
def mupK (k k' : IntKind) (n : Int) (b : Nat) (h : Heap) (Q : AV → Heap → Prop) (c : Value) : Prop := bindO ((h b).bind mapK) (mupP k k' n b h Q c)
def dltE (es : Array MapEntry) (t : Nat) : Option (Nat × Value) → Obj
  | some (j, _) => .map (es.eraseIdxIfInBounds j) t
  | none => .map es t
def dltP (k k' : IntKind) (n : Int) (b : Nat) (h : Heap) (Q : AV → Heap → Prop) (p : Array MapEntry × Nat) : Prop :=
  bindO (fnd k k' n p.1) fun r => Q (.tup []) (upd h b ⟨[.raw (dltE p.1 p.2 r)], 0⟩)
section
variable (P : Program) (G : Glo) (ρ : Env) (h : Heap) (Q : AV → Heap → Prop) (x y i : Operand) (b t j : Nat) (k k' : IntKind) (n : Int) (z a : AV) (ok neg : Bool) (es : Array MapEntry) (v c : Value) (r : Option Nat) (s : ByteArray)
@[push_cast] theorem mapAt_nil : mapAt h (.mpp none) = some (#[], 0) := rfl
@[push_cast] theorem mapAt_some : mapAt h (.mpp (some b)) = (h b).bind mapK := rfl
@[push_cast] theorem mapK_map : mapK ⟨[.raw (.map es t)], 0⟩ = some (es, t) := rfl
@[push_cast] theorem lkV_int : lkV k z ok es (.int k' n) = (fnd k k' n es).map (lkA z ok) := rfl
@[push_cast] theorem lkA_none : lkA z ok none = bif ok then .tup [z, .bool false] else z := rfl
@[push_cast] theorem lkA_some : lkA z ok (some (j, v)) = bif ok then .tup [ofV1 v, .bool true] else ofV1 v := rfl
@[push_cast] theorem evR_lkp : evR G (.lkp k z ok x i) ρ h = (mapAt h (xv G ρ x)).bind fun p => lkV k z ok p.1 (xv G ρ i) := by
  rw [evR]
  cases mapAt h (xv G ρ x) with
  | none => rfl
  | some p => simp only [Option.bind_some]; cases xv G ρ i <;> rfl
@[push_cast] theorem evR_lenm : evR G (.lenm x) ρ h = (mapAt h (xv G ρ x)).map fun e => .int .i64 (e.1.size : Int) := by rw [evR]
@[push_cast] theorem eqmV_mpp : eqmV neg (.mpp r) = some (.bool (r.isNone != neg)) := rfl
@[push_cast] theorem evR_eqm : evR G (.eqm neg x) ρ h = eqmV neg (xv G ρ x) := by rw [evR]; unfold eqmV; rfl
@[push_cast] theorem valM_int : valM (.int k n) = some (.int k n) := rfl
@[push_cast] theorem valM_bool : valM (.bool ok) = some (.bool ok) := rfl
@[push_cast] theorem valM_str : valM (.str s) = some (.string s) := rfl
@[push_cast] theorem valM_mpp : valM (.mpp r) = some (.map r) := rfl
@[push_cast] theorem mupE_some : mupE k' n c es t (some (j, v)) = .map (es.modify j fun e => { e with key := .int k' n, val := c }) t := rfl
@[push_cast] theorem mupE_none : mupE k' n c es t none = .map (es.push { key := .int k' n, val := c, born := t }) (t + 1) := rfl
@[push_cast] theorem mupP_mk : mupP k k' n b h Q c (es, t) = bindO (fnd k k' n es) fun r => Q (.tup []) (upd h b ⟨[.raw (mupE k' n c es t r)], 0⟩) := rfl
@[push_cast] theorem mupK_mk : mupK k k' n b h Q c = bindO ((h b).bind mapK) (mupP k k' n b h Q c) := rfl
@[push_cast] theorem mupQ_mpp : mupQ k (.mpp (some b)) (.int k' n) a h Q = bindO (valM a) (mupK k k' n b h Q) := by
  unfold mupQ
  cases valM a with
  | none => rfl
  | some c =>
    simp only [bindO, mupK]
    cases (h b).bind mapK with
    | none => rfl
    | some p =>
      simp only [mupP, bindO, fnd]
      cases Instr.findNow (.int k) (.int k' n) p.1.toList 0 with
      | none => rfl
      | some r => cases r <;> rfl
@[push_cast] theorem dltE_some : dltE es t (some (j, v)) = .map (es.eraseIdxIfInBounds j) t := rfl
@[push_cast] theorem dltE_none : dltE es t none = .map es t := rfl
@[push_cast] theorem dltP_mk : dltP k k' n b h Q (es, t) = bindO (fnd k k' n es) fun r => Q (.tup []) (upd h b ⟨[.raw (dltE es t r)], 0⟩) := rfl
@[push_cast] theorem dltQ_nil : dltQ k (.mpp none) (.int k' n) h Q = Q (.tup []) h := rfl
@[push_cast] theorem dltQ_mpp : dltQ k (.mpp (some b)) (.int k' n) h Q = bindO ((h b).bind mapK) (dltP k k' n b h Q) := by
  unfold dltQ
  simp only [bindO]
  cases (h b).bind mapK with
  | none => rfl
  | some p =>
    simp only [dltP, bindO, fnd]
    cases Instr.findNow (.int k) (.int k' n) p.1.toList 0 with
    | none => rfl
    | some r => cases r <;> rfl
@[push_cast] theorem stE_mkm : stE P G .mkm ρ h Q = ∀ b, h b = none → Q (.mpp (some b)) (upd h b ⟨[.raw (.map #[] 0)], 0⟩) := by rw [stE]
@[push_cast] theorem stE_mup : stE P G (.mup k x i y) ρ h Q = mupQ k (xv G ρ x) (xv G ρ i) (xv G ρ y) h Q := by rw [stE]
@[push_cast] theorem stE_dlt : stE P G (.dlt k x i) ρ h Q = dltQ k (xv G ρ x) (xv G ρ i) h Q := by rw [stE]
end
section
variable (P : Program) (G : Glo) (ρ : Env) (h : Heap) (Q : AV → Heap → Prop) (x y : Operand) (sz bytes m b o n c : Nat) (z cs : List AV) (k k' : IntKind) (i j : Int)
def cpyK (sz : Nat) (b o : Nat) (m n : Nat) (cs : List AV) (h : Heap) (Q : AV → Heap → Prop) (k : Blk) : Prop :=
  o + n * sz ≤ k.cells.length ∧ Q (.int .i64 ((min m n : Nat) : Int)) (upd h b ⟨splice k.cells o (cs.take (min m n * sz)), k.spare⟩)
@[push_cast] theorem cpyK_app (x : Blk) : cpyK sz b o m n cs h Q x = (o + n * sz ≤ x.cells.length ∧ Q (.int .i64 ((min m n : Nat) : Int)) (upd h b ⟨splice x.cells o (cs.take (min m n * sz)), x.spare⟩)) := by rw [cpyK]
@[push_cast] theorem stE_mks : stE P G (.mks bytes z x y) ρ h Q = mksQ bytes z (xv G ρ x) (xv G ρ y) h Q := by rw [stE]
@[push_cast] theorem mksQ_int : mksQ bytes z (.int k i) (.int k' j) h Q = (0 ≤ i ∧ i ≤ j ∧ j * bytes ≤ 140737488355328 ∧ j ≤ 9223372036854775807 ∧
      ∀ b, h b = none → Q (.sl b 0 i.toNat j.toNat) (upd h b ⟨mkCells z i.toNat, (j - i).toNat * z.length⟩)) := by rw [mksQ]
@[push_cast] theorem stE_cpy : stE P G (.cpy sz x y) ρ h Q = bindO (addedBy h sz (xv G ρ y)) fun p => cpyQ sz p.1 p.2 (xv G ρ x) h Q := by
  rw [stE]; cases addedBy h sz (xv G ρ y) <;> rfl
@[push_cast] theorem cpyQ_nils : cpyQ sz m cs .nils h Q = Q (.int .i64 0) h := by rw [cpyQ]
@[push_cast] theorem cpyQ_sl : cpyQ sz m cs (.sl b o n c) h Q = bindO (h b) (cpyK sz b o m n cs h Q) := by
  rw [cpyQ]; unfold bindO; cases h b <;> rfl
@[push_cast] theorem acap_sl : acap (.sl b o n c) = some c := rfl
@[push_cast] theorem acap_ro : acap (.ro cs n) = some n := rfl
@[push_cast] theorem acap_nils : acap .nils = some 0 := rfl
@[push_cast] theorem aslice3_sl (l hh mm : Nat) : aslice3 sz l hh mm (.sl b o n c) = some (.sl b (o + l * sz) (hh - l) (mm - l)) := rfl
@[push_cast] theorem aslice3_ro (l hh mm : Nat) : aslice3 sz l hh mm (.ro cs n) = some (.ro ((cs.drop (l * sz)).take ((hh - l) * sz)) (hh - l)) := rfl
@[push_cast] theorem aslice3_nils (l hh mm : Nat) : aslice3 sz l hh mm .nils = some .nils := rfl
@[push_cast] theorem mkCells_one (v : AV) : mkCells [v] n = List.replicate n v := rfl
end
section
variable (k k' : IntKind) (a b : Int) (op : BinOp) (s t : ByteArray)
@[push_cast] theorem abin_i_add : abin .add (.int k a) (.int k' b) = if k = k' then some (.int k (k.wrap (a + b))) else none := rfl
@[push_cast] theorem abin_i_sub : abin .sub (.int k a) (.int k' b) = if k = k' then some (.int k (k.wrap (a - b))) else none := rfl
@[push_cast] theorem abin_i_mul : abin .mul (.int k a) (.int k' b) = if k = k' then some (.int k (k.wrap (a * b))) else none := rfl
@[push_cast] theorem abin_i_quo : abin .quo (.int k a) (.int k' b) = if k = k' then (if b = 0 then none else some (.int k (k.wrap (a.tdiv b)))) else none := rfl
@[push_cast] theorem abin_i_rem : abin .rem (.int k a) (.int k' b) = if k = k' then (if b = 0 then none else some (.int k (a.tmod b))) else none := rfl
@[push_cast] theorem abin_i_shl : abin .shl (.int k a) (.int k' b) = if b < 0 then none else some (.int k (k.wrap (a * 2 ^ (min b.toNat k.bits)))) := rfl
@[push_cast] theorem abin_i_shr : abin .shr (.int k a) (.int k' b) = if b < 0 then none else some (.int k (a.fdiv (2 ^ (min b.toNat k.bits)))) := rfl
@[push_cast] theorem abin_i_eql : abin .eql (.int k a) (.int k' b) = if k = k' then some (.bool (a == b)) else none := rfl
@[push_cast] theorem abin_i_neq : abin .neq (.int k a) (.int k' b) = if k = k' then some (.bool (a != b)) else none := rfl
@[push_cast] theorem abin_i_lss : abin .lss (.int k a) (.int k' b) = if k = k' then some (.bool (a < b)) else none := rfl
@[push_cast] theorem abin_i_leq : abin .leq (.int k a) (.int k' b) = if k = k' then some (.bool (a ≤ b)) else none := rfl
@[push_cast] theorem abin_i_gtr : abin .gtr (.int k a) (.int k' b) = if k = k' then some (.bool (a > b)) else none := rfl
@[push_cast] theorem abin_i_geq : abin .geq (.int k a) (.int k' b) = if k = k' then some (.bool (a ≥ b)) else none := rfl
@[push_cast] theorem abin_str : abin op (.str s) (.str t) = match op with
    | .add => if s.size + t.size ≤ 9223372036854775807 then some (.str (s ++ t)) else none
    | .eql => some (.bool (s.toList == t.toList))
    | .neq => some (.bool !(s.toList == t.toList))
    | .lss => some (.bool (Op.bytesLess s.toList t.toList))
    | _ => none := by cases op <;> rfl
end
/-! What comes after an operation is a constant that lacks its last arguments, so that nothing walks on before the operation's value is known. -/
def rwpK (P : Program) (G : Glo) (rest : List AOp) (d : Option Nat) (Q : Env → Heap → Prop) (ρ : Env) (h : Heap) (v : AV) : Prop := rwp P G rest (Ab.put d v ρ) h Q
def rwpL (P : Program) (G : Glo) (rest : List AOp) (d : Option Nat) (Q : Env → Heap → Prop) (ρ : Env) (v : AV) (h : Heap) : Prop := rwp P G rest (Ab.put d v ρ) h Q
def gyR (P : Program) (G : Glo) (r : RK) (rest : List AOp) (d : Option Nat) (Q : Env → Heap → Prop) (ρ : Env) (h : Heap) (_ : Unit) : Prop := bindO (evR G r ρ h) (rwpK P G rest d Q ρ h)
def gyE (P : Program) (G : Glo) (e : EK) (rest : List AOp) (d : Option Nat) (Q : Env → Heap → Prop) (ρ : Env) (h : Heap) (_ : Unit) : Prop := stE P G e ρ h (rwpL P G rest d Q ρ)
def gno (P : Program) (G : Glo) (rest : List AOp) (d : Option Nat) (Q : Env → Heap → Prop) (ρ : Env) (h : Heap) (_ : Unit) : Prop := rwp P G rest (Ab.put d (.tup []) ρ) h Q
def gdV (want : Bool) (v : AV) (yes no : Unit → Prop) : Prop :=
  match v with
  | .bool b => (b = want → yes ()) ∧ (b ≠ want → no ())
  | .tup _ => no ()
  | _ => False
section
variable (P : Program) (G : Glo) (d : Option Nat) (r : RK) (e : EK) (rest : List AOp) (ρ : Env) (h : Heap) (Q : Env → Heap → Prop) (s : Nat) (w : Bool) (v : AV) (u : Unit) (yes no : Unit → Prop) (l : List AV)
@[push_cast] theorem gdV_tt : gdV true (.bool true) yes no = yes () := by simp [gdV]
@[push_cast] theorem gdV_tf : gdV true (.bool false) yes no = no () := by simp [gdV]
@[push_cast] theorem gdV_ft : gdV false (.bool true) yes no = no () := by simp [gdV]
@[push_cast] theorem gdV_ff : gdV false (.bool false) yes no = yes () := by simp [gdV]
@[push_cast] theorem gdV_tup : gdV w (.tup l) yes no = no () := by simp [gdV]
theorem gd_gdV : gd (some (s, w)) ρ (yes ()) (no ()) = gdV w (lk ρ s) yes no := by
  unfold gd gdV; dsimp only; cases lk ρ s <;> rfl
@[push_cast] theorem rwpK_app : rwpK P G rest d Q ρ h v = rwp P G rest (Ab.put d v ρ) h Q := by rw [rwpK]
@[push_cast] theorem rwpL_app : rwpL P G rest d Q ρ v h = rwp P G rest (Ab.put d v ρ) h Q := by rw [rwpL]
@[push_cast] theorem gyR_app : gyR P G r rest d Q ρ h u = bindO (evR G r ρ h) (rwpK P G rest d Q ρ h) := by rw [gyR]
@[push_cast] theorem gyE_app : gyE P G e rest d Q ρ h u = stE P G e ρ h (rwpL P G rest d Q ρ) := by rw [gyE]
@[push_cast] theorem gno_app : gno P G rest d Q ρ h u = rwp P G rest (Ab.put d (.tup []) ρ) h Q := by rw [gno]
@[push_cast] theorem rwp_nil : rwp P G [] ρ h Q = Q ρ h := by rw [rwp]
@[push_cast] theorem rwp_r : rwp P G (⟨d, none, .r r⟩ :: rest) ρ h Q = bindO (evR G r ρ h) (rwpK P G rest d Q ρ h) := by
  rw [rwp]; unfold bindO stp; dsimp only; cases evR G r ρ h <;> rfl
@[push_cast] theorem rwp_e : rwp P G (⟨d, none, .e e⟩ :: rest) ρ h Q = stE P G e ρ h (rwpL P G rest d Q ρ) := by rw [rwp]; rfl
@[push_cast] theorem rwp_gr : rwp P G (⟨d, some (s, w), .r r⟩ :: rest) ρ h Q = gdV w (lk ρ s) (gyR P G r rest d Q ρ h) (gno P G rest d Q ρ h) := by
  rw [← gd_gdV, rwp, gyR_app, gno_app]; unfold bindO stp; dsimp only; cases evR G r ρ h <;> rfl
@[push_cast] theorem rwp_ge : rwp P G (⟨d, some (s, w), .e e⟩ :: rest) ρ h Q = gdV w (lk ρ s) (gyE P G e rest d Q ρ h) (gno P G rest d Q ρ h) := by
  rw [← gd_gdV, rwp, gyE_app, gno_app]; rfl
end
/-! The same for regions of open order. -/
def dst (P : Program) (G : Glo) (o : AOp) (ρ : Env) (h : Heap) (s : Heap → Prop) (q : Env → Heap → Prop) : Prop :=
  gd o.g ρ (match o.k with
    | .r k => bindO (evR G k ρ h) fun v => q (Ab.put o.d v ρ) h
    | .e k => stE P G k ρ h fun v h' => s h' ∧ q (Ab.put o.d v ρ) h') (q (Ab.put o.d (.tup []) ρ) h)
def dwpC (P : Program) (G : Glo) (ops : List AOp) (dr : List (Nat × List Nat)) (Q : Env → Heap → Prop) (ρ : Env) (h : Heap) : Prop := dwp P G ops dr ρ h Q
def stbC (G : Glo) (ops : List AOp) (fl : List Nat) (ρ : Env) (h : Heap) : Prop := stb G ops ρ h fl
def dsK (q : Env → Heap → Prop) (d : Option Nat) (ρ : Env) (h : Heap) (v : AV) : Prop := q (Ab.put d v ρ) h
def dsL (s : Heap → Prop) (q : Env → Heap → Prop) (d : Option Nat) (ρ : Env) (v : AV) (h : Heap) : Prop := s h ∧ q (Ab.put d v ρ) h
def dyR (G : Glo) (r : RK) (d : Option Nat) (q : Env → Heap → Prop) (ρ : Env) (h : Heap) (_ : Unit) : Prop := bindO (evR G r ρ h) (dsK q d ρ h)
def dyE (P : Program) (G : Glo) (e : EK) (d : Option Nat) (s : Heap → Prop) (q : Env → Heap → Prop) (ρ : Env) (h : Heap) (_ : Unit) : Prop := stE P G e ρ h (dsL s q d ρ)
def dno (d : Option Nat) (q : Env → Heap → Prop) (ρ : Env) (h : Heap) (_ : Unit) : Prop := q (Ab.put d (.tup []) ρ) h
section
variable (P : Program) (G : Glo) (d : Option Nat) (r : RK) (e : EK) (ρ : Env) (h : Heap) (Q : Env → Heap → Prop) (c : Nat) (w : Bool) (v : AV) (u : Unit) (s : Heap → Prop) (ops : List AOp) (i : Nat) (fl : List Nat) (dr : List (Nat × List Nat))
@[push_cast] theorem dwpC_app : dwpC P G ops dr Q ρ h = dwp P G ops dr ρ h Q := by rw [dwpC]
@[push_cast] theorem stbC_app : stbC G ops fl ρ h = stb G ops ρ h fl := by rw [stbC]
@[push_cast] theorem dsK_app : dsK Q d ρ h v = Q (Ab.put d v ρ) h := by rw [dsK]
@[push_cast] theorem dsL_app : dsL s Q d ρ v h = (s h ∧ Q (Ab.put d v ρ) h) := by rw [dsL]
@[push_cast] theorem dyR_app : dyR G r d Q ρ h u = bindO (evR G r ρ h) (dsK Q d ρ h) := by rw [dyR]
@[push_cast] theorem dyE_app : dyE P G e d s Q ρ h u = stE P G e ρ h (dsL s Q d ρ) := by rw [dyE]
@[push_cast] theorem dno_app : dno d Q ρ h u = Q (Ab.put d (.tup []) ρ) h := by rw [dno]
@[push_cast] theorem dst_r : dst P G ⟨d, none, .r r⟩ ρ h s Q = bindO (evR G r ρ h) (dsK Q d ρ h) := by unfold dst bindO; rfl
@[push_cast] theorem dst_e : dst P G ⟨d, none, .e e⟩ ρ h s Q = stE P G e ρ h (dsL s Q d ρ) := by unfold dst; rfl
@[push_cast] theorem dst_gr : dst P G ⟨d, some (c, w), .r r⟩ ρ h s Q = gdV w (lk ρ c) (dyR G r d Q ρ h) (dno d Q ρ h) := by
  rw [← gd_gdV]; unfold dst dyR dno bindO; rfl
@[push_cast] theorem dst_ge : dst P G ⟨d, some (c, w), .e e⟩ ρ h s Q = gdV w (lk ρ c) (dyE P G e d s Q ρ h) (dno d Q ρ h) := by
  rw [← gd_gdV]; unfold dst dyE dno; rfl
@[push_cast] theorem dwp_nil : dwp P G ops [] ρ h Q = Q ρ h := by rw [dwp]
def dwpO (P : Program) (G : Glo) (ops : List AOp) (fl : List Nat) (dr : List (Nat × List Nat)) (Q : Env → Heap → Prop) (ρ : Env) (h : Heap) (o : AOp) : Prop := dst P G o ρ h (stbC G ops fl ρ) (dwpC P G ops dr Q)
@[push_cast] theorem dwpO_app (o : AOp) : dwpO P G ops fl dr Q ρ h o = dst P G o ρ h (stbC G ops fl ρ) (dwpC P G ops dr Q) := by rw [dwpO]
@[push_cast] theorem dwp_cons : dwp P G ops ((i, fl) :: dr) ρ h Q = bindO ops[i]? (dwpO P G ops fl dr Q ρ h) := by
  rw [dwp]
  unfold bindO dwpO dst bindO
  cases ops[i]? with
  | none => rfl
  | some o =>
    obtain ⟨d, g, k⟩ := o
    cases k with
    | r k => simp only; cases evR G k ρ h <;> rfl
    | e k => rfl
end
section
variable (P : Program) (G : Glo) (ρ : Env) (h : Heap) (Q : Env → Heap → Prop) (ops : List AOp) (i j : Nat) (fl : List Nat) (t u alt : OT) (p : Prop)
@[push_cast] theorem dwpT_nil : dwpT P G ops Q .nil ρ h = Q ρ h := by rw [dwpT]
def dwTC (P : Program) (G : Glo) (ops : List AOp) (Q : Env → Heap → Prop) (t : OT) (ρ : Env) (h : Heap) : Prop := dwpT P G ops Q t ρ h
@[push_cast] theorem dwTC_app : dwTC P G ops Q t ρ h = dwpT P G ops Q t ρ h := by rw [dwTC]
def dwTO (P : Program) (G : Glo) (ops : List AOp) (fl : List Nat) (Q : Env → Heap → Prop) (t : OT) (ρ : Env) (h : Heap) (o : AOp) : Prop := dst P G o ρ h (stbC G ops fl ρ) (dwTC P G ops Q t)
@[push_cast] theorem dwTO_app (o : AOp) : dwTO P G ops fl Q t ρ h o = dst P G o ρ h (stbC G ops fl ρ) (dwTC P G ops Q t) := by rw [dwTO]
def alU (P : Program) (G : Glo) (ops : List AOp) (Q : Env → Heap → Prop) (t : OT) (ρ : Env) (h : Heap) (_ : Unit) : Prop := dwpT P G ops Q t ρ h
theorem dw1_eq (o : AOp) : dw1 P G ops fl ρ h (dwpT P G ops Q t) o = dwTO P G ops fl Q t ρ h o := by
  unfold dw1 dwTO dst bindO
  obtain ⟨d, g, k⟩ := o
  cases k with
  | r k => simp only; cases evR G k ρ h <;> rfl
  | e k => rfl
@[push_cast] theorem dwpT_r : dwpT P G ops Q (.r i t) ρ h = bindO ops[i]? (dwTO P G ops [] Q t ρ h) := by
  rw [dwpT]; unfold bindO
  cases ops[i]? with
  | none => rfl
  | some o => exact dw1_eq P G ρ h Q ops [] t o
def altC (P : Program) (G : Glo) (ops : List AOp) (Q : Env → Heap → Prop) (alt : OT) (ρ : Env) (h : Heap) : Prop := altQ alt (dwpT P G ops Q alt ρ h)
@[push_cast] theorem altC_nil : altC P G ops Q .nil ρ h = True := by rw [altC]; rfl
@[push_cast] theorem altC_e : altC P G ops Q (.e i fl t alt) ρ h = dwpT P G ops Q (.e i fl t alt) ρ h := by rw [altC]; rfl
@[push_cast] theorem dwpT_e : dwpT P G ops Q (.e i fl t alt) ρ h = (bindO ops[i]? (dwTO P G ops fl Q t ρ h) ∧ altC P G ops Q alt ρ h) := by
  rw [dwpT, altC]; unfold bindO
  cases ops[i]? with
  | none => rfl
  | some o => simp only [dw1_eq]
end
section
variable (h : Heap) (sz l hh n o b c : Nat) (cs : List AV) (k : IntKind) (x : Int)
@[push_cast] theorem cellsOf_int : cellsOf (.int k x) = some [.int k x] := rfl
@[push_cast] theorem cellsOf_bool (x) : cellsOf (.bool x) = some [.bool x] := rfl
@[push_cast] theorem cellsOf_str (x) : cellsOf (.str x) = some [.str x] := rfl
@[push_cast] theorem cellsOf_nilp : cellsOf .nilp = some [.nilp] := rfl
@[push_cast] theorem cellsOf_nils : cellsOf .nils = some [.nils] := rfl
@[push_cast] theorem cellsOf_nilf : cellsOf .nilf = some [.nilf] := rfl
@[push_cast] theorem cellsOf_ptr : cellsOf (.ptr b o) = some [.ptr b o] := rfl
@[push_cast] theorem cellsOf_cp : cellsOf (.cp cs o) = some [.cp cs o] := rfl
@[push_cast] theorem cellsOf_sl : cellsOf (.sl b o n c) = some [.sl b o n c] := rfl
@[push_cast] theorem cellsOf_ro : cellsOf (.ro cs n) = some [.ro cs n] := rfl
@[push_cast] theorem cellsOf_fn (d) : cellsOf (.fn n cs d) = some [.fn n cs d] := rfl
@[push_cast] theorem cellsOf_agg : cellsOf (.agg cs) = some cs := rfl
@[push_cast] theorem asto_ptr : asto h n (.ptr b o) (some cs) = match h b with
    | some x => if cs.length = n ∧ o + n ≤ x.cells.length then some (upd h b ⟨splice x.cells o cs, x.spare⟩) else none
    | none => none := rfl
@[push_cast] theorem splice_one (v : AV) : splice cs o [v] = cs.set o v := rfl
@[push_cast] theorem splice_two (v w : AV) (r) : splice cs o (v :: w :: r) = cs.take o ++ (v :: w :: r) ++ cs.drop (o + (r.length + 2)) := rfl
@[push_cast] theorem splice_none : splice cs o [] = cs := by simp [splice]
@[push_cast] theorem alen_nils : alen .nils = some 0 := rfl
@[push_cast] theorem alen_sl : alen (.sl b o n c) = some n := rfl
@[push_cast] theorem alen_ro : alen (.ro cs n) = some n := rfl
@[push_cast] theorem aslice_sl : aslice sz l hh (.sl b o n c) = some (.sl b (o + l * sz) (hh - l) (c - l)) := rfl
@[push_cast] theorem aslice_ro : aslice sz l hh (.ro cs n) = some (.ro ((cs.drop (l * sz)).take ((hh - l) * sz)) (hh - l)) := rfl
@[push_cast] theorem aslice_nils : aslice sz l hh .nils = some .nils := rfl
@[push_cast] theorem addedBy_nils : addedBy h sz .nils = some (0, []) := rfl
@[push_cast] theorem addedBy_ro : addedBy h sz (.ro cs n) = if cs.length = n * sz then some (n, cs) else none := rfl
@[push_cast] theorem addedBy_sl : addedBy h sz (.sl b o n c) = match h b with
    | some x => if o + n * sz ≤ x.cells.length then some (n, (x.cells.drop o).take (n * sz)) else none
    | none => none := rfl
@[push_cast] theorem addedBy_str (s : ByteArray) : addedBy h sz (.str s) = if sz = 1 then some (s.size, s.data.toList.map fun c => .int .u8 c.toNat) else none := rfl
end
/-! What an operation that looks tells, kind by kind. -/
def pickV (c a b : AV) : Option AV := match c with
  | .bool t => some (bif t then a else b)
  | _ => none
def convV (k : IntKind) (v : AV) : Option AV := match v with
  | .int _ n => some (.int k (k.wrap n))
  | _ => none
def bstrV (h : Heap) (v : AV) : Option AV := match v with
  | .str _ => none
  | v => match addedBy h 1 v with
    | some (_, cells) => (intsOf cells).map fun ns => .str (strOf ns)
    | none => none
def fadV (off : Nat) (v : AV) : Option AV := match v with
  | .ptr b o => some (.ptr b (o + off))
  | .cp cells o => some (.cp cells (o + off))
  | _ => none
def fldV (off : Nat) (n : Option Nat) (v : AV) : Option AV := match v with
  | .agg cells => partOf cells off n
  | _ => none
def ixsV (sz : Nat) (v i : AV) : Option AV := match v, i with
  | .sl b o len _, .int _ j => if 0 ≤ j ∧ j < (len : Int) then some (.ptr b (o + j.toNat * sz)) else none
  | .ro cells len, .int _ j => if 0 ≤ j ∧ j < (len : Int) then some (.cp cells (j.toNat * sz)) else none
  | _, _ => none
def ixaV (n sz : Nat) (v i : AV) : Option AV := match v, i with
  | .ptr b o, .int _ j => if 0 ≤ j ∧ j < (n : Int) then some (.ptr b (o + j.toNat * sz)) else none
  | .cp cells o, .int _ j => if 0 ≤ j ∧ j < (n : Int) then some (.cp cells (o + j.toNat * sz)) else none
  | _, _ => none
def ixvV (n sz : Nat) (m : Option Nat) (v i : AV) : Option AV := match v, i with
  | .agg cells, .int _ j => if 0 ≤ j ∧ j < (n : Int) then partOf cells (j.toNat * sz) m else none
  | _, _ => none
def ixbV (v i : AV) : Option AV := match v, i with
  | .str s, .int _ j => if 0 ≤ j ∧ j < (s.size : Int) then some (.int .u8 (s.data.toList[j.toNat]?.getD 0).toNat) else none
  | _, _ => none
def nckV (v : AV) : Option AV := match v with
  | .ptr b o => some (.ptr b o)
  | .cp cells o => some (.cp cells o)
  | _ => none
def extV (i : Nat) (v : AV) : Option AV := match v with
  | .tup vs => vs[i]?
  | _ => none
def lensV (v : AV) : Option AV := match v with
  | .str s => some (.int .i64 s.size)
  | _ => none
def mmV (mx : Bool) (x y : AV) : Option AV := match x, y with
  | .int k a, .int _ b => some (.int k (bif mx then (if b > a then b else a) else (if b < a then b else a)))
  | _, _ => none
section
variable (G : Glo) (ρ : Env) (h : Heap) (x y z : Operand) (op : BinOp) (u : UnOp) (k k' : IntKind) (n m off sz i : Nat) (on : Option Nat) (neg : Bool) (ks : List CK) (a b c : AV) (cells : List AV) (parts : List (Nat × Nat × Operand)) (xs ys : List Operand) (lo hi : Option Operand) (j : Int) (s : ByteArray) (t : Bool)
@[push_cast] theorem evR_mv : evR G (.mv x) ρ h = some (xv G ρ x) := by rw [evR]
@[push_cast] theorem evR_pick : evR G (.pick x y z) ρ h = pickV (xv G ρ x) (xv G ρ y) (xv G ρ z) := by rw [evR]; unfold pickV; cases xv G ρ x <;> rfl
@[push_cast] theorem evR_bin : evR G (.bin op x y) ρ h = abin op (xv G ρ x) (xv G ρ y) := by rw [evR]
@[push_cast] theorem evR_eqb : evR G (.eqb neg x y) ρ h = abeq neg (xv G ρ x) (xv G ρ y) := by rw [evR]
@[push_cast] theorem evR_eqp : evR G (.eqp neg x y) ρ h = peq neg (xv G ρ x) (xv G ρ y) := by rw [evR]
@[push_cast] theorem evR_eqa : evR G (.eqa neg ks x y) ρ h = aeq neg ks (xv G ρ x) (xv G ρ y) := by rw [evR]
@[push_cast] theorem evR_un : evR G (.un u x) ρ h = aun u (xv G ρ x) := by rw [evR]
@[push_cast] theorem evR_conv : evR G (.conv k x) ρ h = convV k (xv G ρ x) := by rw [evR]; unfold convV; cases xv G ρ x <;> rfl
@[push_cast] theorem evR_bstr : evR G (.bstr x) ρ h = bstrV h (xv G ρ x) := by rw [evR]; unfold bstrV; cases xv G ρ x <;> rfl
@[push_cast] theorem evR_fad : evR G (.fad off x) ρ h = fadV off (xv G ρ x) := by rw [evR]; unfold fadV; cases xv G ρ x <;> rfl
@[push_cast] theorem evR_fld : evR G (.fld off on x) ρ h = fldV off on (xv G ρ x) := by rw [evR]; unfold fldV; cases xv G ρ x <;> rfl
@[push_cast] theorem evR_ixs : evR G (.ixs sz x y) ρ h = ixsV sz (xv G ρ x) (xv G ρ y) := by rw [evR]; unfold ixsV; cases xv G ρ x <;> cases xv G ρ y <;> rfl
@[push_cast] theorem evR_ixa : evR G (.ixa n sz x y) ρ h = ixaV n sz (xv G ρ x) (xv G ρ y) := by rw [evR]; unfold ixaV; cases xv G ρ x <;> cases xv G ρ y <;> rfl
@[push_cast] theorem evR_ixv : evR G (.ixv n sz on x y) ρ h = ixvV n sz on (xv G ρ x) (xv G ρ y) := by rw [evR]; unfold ixvV; cases xv G ρ x <;> cases xv G ρ y <;> rfl
@[push_cast] theorem evR_ixb : evR G (.ixb x y) ρ h = ixbV (xv G ρ x) (xv G ρ y) := by rw [evR]; unfold ixbV; cases xv G ρ x <;> cases xv G ρ y <;> rfl
@[push_cast] theorem evR_ld : evR G (.ld on x) ρ h = ald h on (xv G ρ x) := by rw [evR]
@[push_cast] theorem evR_nck : evR G (.nck x) ρ h = nckV (xv G ρ x) := by rw [evR]; unfold nckV; cases xv G ρ x <;> rfl
@[push_cast] theorem evR_ext : evR G (.ext i x) ρ h = extV i (xv G ρ x) := by rw [evR]; unfold extV; cases xv G ρ x <;> rfl
@[push_cast] theorem evR_len : evR G (.len x) ρ h = (alen (xv G ρ x)).map fun (n : Nat) => AV.int .i64 (n : Int) := by rw [evR]
@[push_cast] theorem evR_lens : evR G (.lens x) ρ h = lensV (xv G ρ x) := by rw [evR]; unfold lensV; cases xv G ρ x <;> rfl
@[push_cast] theorem evR_mm : evR G (.mm neg x y) ρ h = mmV neg (xv G ρ x) (xv G ρ y) := by rw [evR]; unfold mmV; cases xv G ρ x <;> cases xv G ρ y <;> rfl
@[push_cast] theorem evR_bld : evR G (.bld cells parts) ρ h = (afill (xv G ρ) cells parts).map .agg := by rw [evR]
@[push_cast] theorem evR_mkf : evR G (.mkf n xs ys) ρ h = some (.fn n (xs.map (xv G ρ)) (ys.map (xv G ρ))) := by rw [evR]
def slsV (G : Glo) (ρ : Env) (sz : Nat) (lo hi : Option Operand) (v : AV) : Option AV := match alen v with
  | some n => match abound (xv G ρ) n n hi with
    | some hh => match abound (xv G ρ) 0 hh lo with
      | some l => aslice sz l hh v
      | none => none
    | none => none
  | none => none
def slaV (G : Glo) (ρ : Env) (n sz : Nat) (lo hi : Option Operand) (v : AV) : Option AV := match abound (xv G ρ) n n hi with
  | some hh => match abound (xv G ρ) 0 hh lo with
    | some l => match v with
      | .ptr b o => some (.sl b (o + l * sz) (hh - l) (n - l))
      | .cp cells o => some (.ro ((cells.drop (o + l * sz)).take ((hh - l) * sz)) (hh - l))
      | _ => none
    | none => none
  | none => none
def slbV (G : Glo) (ρ : Env) (lo hi : Option Operand) (v : AV) : Option AV := match v with
  | .str s => match abound (xv G ρ) s.size s.size hi with
    | some hh => match abound (xv G ρ) 0 hh lo with
      | some l => some (.str (s.extract l hh))
      | none => none
    | none => none
  | _ => none
@[push_cast] theorem evR_sls : evR G (.sls sz x lo hi) ρ h = slsV G ρ sz lo hi (xv G ρ x) := by rw [evR]; unfold slsV; rfl
@[push_cast] theorem evR_sla : evR G (.sla n sz x lo hi) ρ h = slaV G ρ n sz lo hi (xv G ρ x) := by rw [evR]; unfold slaV; rfl
def sls3V (G : Glo) (ρ : Env) (sz : Nat) (lo : Option Operand) (hi mx : Operand) (v : AV) : Option AV := (acap v).bind fun c => (abound (xv G ρ) 0 c (some mx)).bind fun mm => (abound (xv G ρ) 0 mm (some hi)).bind fun hh => (abound (xv G ρ) 0 hh lo).bind fun l => aslice3 sz l hh mm v
@[push_cast] theorem evR_sls3 : evR G (.sls3 sz x lo y z) ρ h = (acap (xv G ρ x)).bind fun c => (abound (xv G ρ) 0 c (some z)).bind fun mm => (abound (xv G ρ) 0 mm (some y)).bind fun hh => (abound (xv G ρ) 0 hh lo).bind fun l => aslice3 sz l hh mm (xv G ρ x) := by
  rw [evR]
  cases acap (xv G ρ x) with
  | none => rfl
  | some c =>
    simp only [Option.bind_some]
    cases abound (xv G ρ) 0 c (some z) with
    | none => rfl
    | some mm =>
      simp only [Option.bind_some]
      cases abound (xv G ρ) 0 mm (some y) with
      | none => rfl
      | some hh =>
        simp only [Option.bind_some]
        cases abound (xv G ρ) 0 hh lo <;> rfl
@[push_cast] theorem evR_slb : evR G (.slb x lo hi) ρ h = slbV G ρ lo hi (xv G ρ x) := by rw [evR]; unfold slbV; cases xv G ρ x <;> rfl
@[push_cast] theorem slsV_eq (v : AV) : slsV G ρ sz lo hi v = (alen v).bind fun n => (abound (xv G ρ) n n hi).bind fun hh => (abound (xv G ρ) 0 hh lo).bind fun l => aslice sz l hh v := by
  unfold slsV
  cases alen v with
  | none => rfl
  | some n =>
    simp only [Option.bind_some]
    cases abound (xv G ρ) n n hi with
    | none => rfl
    | some hh =>
      simp only [Option.bind_some]
      cases abound (xv G ρ) 0 hh lo <;> rfl
def slaW (n sz l hh : Nat) (v : AV) : Option AV := match v with
  | .ptr b o => some (.sl b (o + l * sz) (hh - l) (n - l))
  | .cp cells o => some (.ro ((cells.drop (o + l * sz)).take ((hh - l) * sz)) (hh - l))
  | _ => none
@[push_cast] theorem slaW_ptr (b o l hh : Nat) : slaW n sz l hh (.ptr b o) = some (.sl b (o + l * sz) (hh - l) (n - l)) := rfl
@[push_cast] theorem slaW_cp (o l hh : Nat) : slaW n sz l hh (.cp cells o) = some (.ro ((cells.drop (o + l * sz)).take ((hh - l) * sz)) (hh - l)) := rfl
@[push_cast] theorem slaV_eq (v : AV) : slaV G ρ n sz lo hi v = (abound (xv G ρ) n n hi).bind fun hh => (abound (xv G ρ) 0 hh lo).bind fun l => slaW n sz l hh v := by
  unfold slaV
  cases abound (xv G ρ) n n hi with
  | none => rfl
  | some hh =>
    simp only [Option.bind_some]
    cases abound (xv G ρ) 0 hh lo with
    | none => rfl
    | some l => cases v <;> rfl
@[push_cast] theorem slbV_str (s : ByteArray) : slbV G ρ lo hi (.str s) = (abound (xv G ρ) s.size s.size hi).bind fun hh => (abound (xv G ρ) 0 hh lo).bind fun l => some (.str (s.extract l hh)) := by
  unfold slbV
  dsimp only
  cases abound (xv G ρ) s.size s.size hi with
  | none => rfl
  | some hh =>
    simp only [Option.bind_some]
    cases abound (xv G ρ) 0 hh lo <;> rfl
@[push_cast] theorem bind_ite {α β : Type} {c : Prop} [Decidable c] {a : α} {f : α → Option β} : (if c then some a else none).bind f = if c then f a else none := by split <;> rfl
@[push_cast] theorem ite_nest {α : Type} {c d : Prop} [Decidable c] [Decidable d] {a : α} : (if c then (if d then some a else none) else none) = if c ∧ d then some a else none := by
  by_cases hc : c <;> by_cases hd : d <;> simp [hc, hd]
theorem splice_ne {cells cs : List AV} {o : Nat} (h : cs.length ≠ 1) : splice cells o cs = cells.take o ++ cs ++ cells.drop (o + cs.length) := by
  match cs, h with
  | [], h => simp [splice]
  | v :: w :: r, h => rfl
theorem partOf_all {cells : List AV} {n : Nat} (h : cells.length = n) : partOf cells 0 (some n) = some (.agg cells) := by
  subst h; simp [partOf_some]
theorem splice_all' {cells cs : List AV} (h : cs.length = cells.length) : splice cells 0 cs = cs := by
  match cs, h with
  | [], h => simp [splice]; exact List.eq_nil_of_length_eq_zero h.symm
  | [v], h =>
    match cells, h with
    | [c], _ => rfl
  | v :: w :: r, h => simp only [List.length_cons] at h; simp [splice, h]
@[push_cast] theorem pickV_b : pickV (.bool t) a b = some (bif t then a else b) := rfl
@[push_cast] theorem convV_i : convV k (.int k' j) = some (.int k (k.wrap j)) := rfl
@[push_cast] theorem bstrV_sl : bstrV h (.sl n m off sz) = match addedBy h 1 (.sl n m off sz) with
    | some (_, cells) => (intsOf cells).map fun ns => .str (strOf ns)
    | none => none := rfl
@[push_cast] theorem bstrV_ro : bstrV h (.ro cells n) = match addedBy h 1 (.ro cells n) with
    | some (_, cells) => (intsOf cells).map fun ns => .str (strOf ns)
    | none => none := rfl
@[push_cast] theorem bstrV_nils : bstrV h .nils = some (.str (strOf [])) := rfl
@[push_cast] theorem fadV_ptr : fadV off (.ptr n m) = some (.ptr n (m + off)) := rfl
@[push_cast] theorem fadV_cp : fadV off (.cp cells m) = some (.cp cells (m + off)) := rfl
@[push_cast] theorem fldV_agg : fldV off on (.agg cells) = partOf cells off on := rfl
@[push_cast] theorem ixsV_sl : ixsV sz (.sl n m off i) (.int k j) = if 0 ≤ j ∧ j < (off : Int) then some (.ptr n (m + j.toNat * sz)) else none := rfl
@[push_cast] theorem ixsV_ro : ixsV sz (.ro cells n) (.int k j) = if 0 ≤ j ∧ j < (n : Int) then some (.cp cells (j.toNat * sz)) else none := rfl
@[push_cast] theorem ixsV_nils : ixsV sz .nils (.int k j) = none := rfl
@[push_cast] theorem ixaV_ptr : ixaV n sz (.ptr m off) (.int k j) = if 0 ≤ j ∧ j < (n : Int) then some (.ptr m (off + j.toNat * sz)) else none := rfl
@[push_cast] theorem ixaV_cp : ixaV n sz (.cp cells off) (.int k j) = if 0 ≤ j ∧ j < (n : Int) then some (.cp cells (off + j.toNat * sz)) else none := rfl
@[push_cast] theorem ixvV_agg : ixvV n sz on (.agg cells) (.int k j) = if 0 ≤ j ∧ j < (n : Int) then partOf cells (j.toNat * sz) on else none := rfl
@[push_cast] theorem ixbV_str : ixbV (.str s) (.int k j) = if 0 ≤ j ∧ j < (s.size : Int) then some (.int .u8 (s.data.toList[j.toNat]?.getD 0).toNat) else none := rfl
@[push_cast] theorem nckV_ptr : nckV (.ptr n m) = some (.ptr n m) := rfl
@[push_cast] theorem nckV_cp : nckV (.cp cells n) = some (.cp cells n) := rfl
@[push_cast] theorem extV_tup : extV i (.tup cells) = cells[i]? := rfl
@[push_cast] theorem lensV_str : lensV (.str s) = some (.int .i64 s.size) := rfl
@[push_cast] theorem mmV_int (l : Int) : mmV t (.int k j) (.int k' l) = some (.int k (bif t then (if l > j then l else j) else (if l < j then l else j))) := rfl
theorem mmV_int' (l : Int) : mmV t (.int k j) (.int k' l) = some (.int k (bif t then (if l > j then l else j) else (if l < j then l else j))) := rfl
@[push_cast] theorem lk_nil (q : Nat) : lk [] q = .any := rfl
@[push_cast 1100] theorem lk_self (p : Nat) (v : AV) (r : Env) : lk ((p, v) :: r) p = v := by simp [lk]
@[push_cast] theorem lk_cons (q p : Nat) (v : AV) (r : Env) : lk ((p, v) :: r) q = bif q == p then v else lk r q := rfl
@[push_cast] theorem xv_tmp (q : Nat) : xv G ρ (.tmp q) = lk ρ q := rfl
@[push_cast] theorem xv_const (v : Value) : xv G ρ (.const v) = ofV v := rfl
@[push_cast] theorem xv_global (q : Nat) : xv G ρ (.global q) = G q := rfl
@[push_cast] theorem xv_func (q : Nat) : xv G ρ (.func q) = .fn q [] [] := rfl
@[push_cast] theorem ald_ptr (v w : Nat) : ald h on (.ptr v w) = match h v with
    | some x => partOf x.cells w on
    | none => none := rfl
@[push_cast] theorem ald_cp (w : Nat) : ald h on (.cp cells w) = partOf cells w on := rfl
end
attribute [push_cast] splice_all' partOf_all Vector.length_toList
attribute [push_cast] ofV ofV1 Ab.put thn keep blk retQ resOf rvOf argEnv abeq peq aun abound afill partOf_none stb pend
  List.zipIdx_cons List.zipIdx_nil List.map_cons List.map_nil List.mapM_cons List.mapM_nil cond_true cond_false beq_self_eq_true Option.map_some Option.map_none Option.bind_eq_bind Option.bind_some Option.pure_def
  if_true if_false true_and and_true Int.natCast_nonneg Int.ofNat_lt Int.toNat_natCast Nat.zero_add Nat.add_zero ne_eq not_true_eq_false not_false_eq_true forall_const false_implies true_implies Nat.zero_mul Nat.mul_one Nat.one_mul Nat.mul_zero Nat.sub_zero List.getElem?_cons_zero List.getElem?_cons_succ
  List.take_succ_cons List.take_zero List.drop_succ_cons List.drop_zero List.nil_append List.cons_append List.append_nil List.drop_nil List.take_nil List.length_cons List.length_nil List.set_cons_zero List.set_cons_succ forall_eq
end Go.Ab
