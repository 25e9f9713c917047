/-
  AxQb: one operation, with closed branches.
-/
import Derived.Test.YtaopfnhkfedemaaGreatDoorAxQa
set_option linter.unusedVariables false
set_option linter.unusedSimpArgs false
noncomputable section
namespace Go.Ax

/-! ### operands -/
def qTmp (t : Nat) (e : T AV) : AV := T.get und e t
def qConst (v : Value) (_ : T AV) : AV := ofV v
def qGlob (g : Nat) (_ : T AV) : AV := .gptr g 0
def qFunc (f : FuncId) (_ : T AV) : AV := .fn (.func f) [] []
def evQ (e : T AV) (x : Operand) : AV := Operand.rec (motive := fun _ => T AV → AV) qTmp qConst qGlob qFunc x e
theorem evQ_eq (e : T AV) (x : Operand) : evQ e x = ev e x := by cases x <;> rfl

/-! ### memory -/
def rowKeep (r : Row) (_ : Heap) : Option Row := some r
def rowTip (q : Nat) (r : Row) (h : Heap) : Option Row := match h.tip q with | some _ => some r | none => none
def rowRoot (r : Row) (h : Heap) : Option Row := Option.rec (motive := fun _ => Row → Heap → Option Row) rowKeep rowTip r.root r h
def rowNo (_ : Heap) : Option Row := none
def rowQ (h : Heap) (id : Nat) : Option Row :=
  AB.rec (motive := fun _ => Heap → Option Row) rowNo rowRoot (fun _ _ => rowNo) (fun _ => rowNo) (fun _ => rowNo) (fun _ _ => rowNo) (fun _ _ _ _ => rowNo) (fun _ => rowNo) (h.get id) h
theorem rowQ_eq (h : Heap) (id : Nat) : rowQ h id = h.row id := by
  unfold rowQ Heap.row
  cases h.get id with
  | row r =>
    show Option.rec (motive := fun _ => Row → Heap → Option Row) rowKeep rowTip r.root r h = _
    cases hr : r.root with
    | none => simp only [rowKeep, hr]
    | some q => simp only [rowTip, hr]; cases h.tip q <;> rfl
  | _ => rfl
def cellHere (v : AV) (_ : Row) (_ : Nat) : AV := v
def orBad (x : Option AV) : AV := Option.rec (motive := fun _ => AV) .bad (fun v => v) x
def cellPat (r : Row) (i : Nat) : AV := orBad (nth r.pat (Nat.mod i r.pat.length))
def rowGet (r : Row) (i : Nat) : AV := Option.rec (motive := fun _ => Row → Nat → AV) cellPat cellHere (r.c.get none i) r i
theorem rowGet_eq (r : Row) (i : Nat) : rowGet r i = r.get i := by
  unfold rowGet Row.get
  cases r.c.get none i with
  | some v => rfl
  | none =>
    show cellPat r i = _
    unfold cellPat orBad
    show Option.rec (motive := fun _ => AV) AV.bad (fun v => v) (nth r.pat (i % r.pat.length)) = _
    cases nth r.pat (i % r.pat.length) <;> rfl

def ldNo (_ : Ctx) (_ : TypeId) (_ : Nat) : Option AV := none
def ldCell (r : Row) (off : Nat) : Option AV := Bool.rec (motive := fun _ => Option AV) none (some (rowGet r off)) (Nat.ble (Nat.succ off) r.n)
def ldPlain (r : Row) (c : Ctx) (t : TypeId) (off : Nat) : Option AV := ldCell r off
def ldWhole (r : Row) (c : Ctx) (t : TypeId) (off : Nat) : Option AV :=
  match c.size t with
  | some s => (match Nat.ble (off + s) r.n with | true => some (.agg (r.read off s)) | false => none)
  | none => none
def ldAgg (b : Bool) : Row → Ctx → TypeId → Nat → Option AV := Bool.rec (motive := fun _ => Row → Ctx → TypeId → Nat → Option AV) ldPlain ldWhole b
def ldNone (_ : Row) (_ : Ctx) (_ : TypeId) (_ : Nat) : Option AV := none
def ldRow (r : Row) (c : Ctx) (t : TypeId) (off : Nat) : Option AV := Option.rec (motive := fun _ => Row → Ctx → TypeId → Nat → Option AV) ldNone ldAgg (c.isAgg t) r c t off
def ldPtr (id off : Nat) (c : Ctx) (h : Heap) (t : TypeId) : Option AV := Option.rec (motive := fun _ => Ctx → TypeId → Nat → Option AV) ldNo ldRow (rowQ h id) c t off
def ldGl (g off : Nat) (c : Ctx) (h : Heap) (t : TypeId) : Option AV := oLoad c h t (.gptr g off)
def ldNoP (_ : Ctx) (_ : Heap) (_ : TypeId) : Option AV := none
def oLoadQ (c : Ctx) (h : Heap) (t : TypeId) (a : AV) : Option AV := AV.rec (motive_1 := fun _ => Ctx → Heap → TypeId → Option AV) (motive_2 := fun _ => PUnit) ldNoP (fun _ => ldNoP) (fun _ _ => ldNoP) (fun _ => ldNoP) ldNoP ldPtr ldNoP (fun _ _ _ _ _ => ldNoP) (fun _ => ldNoP) ldNoP (fun _ => ldNoP) ldNoP (fun _ _ _ _ _ => ldNoP) ldNoP (fun _ _ _ => ldNoP) (fun _ _ => ldNoP) (fun _ _ => ldNoP) ldGl ldNoP (fun _ => ldNoP) (fun _ => ldNoP) ldNoP PUnit.unit (fun _ _ _ _ => PUnit.unit) a c h t
theorem oLoadQ_eq (c : Ctx) (h : Heap) (t : TypeId) (a : AV) : oLoadQ c h t a = oLoad c h t a := by
  cases a <;> first | rfl | skip
  rename_i id off
  show Option.rec (motive := fun _ => Ctx → TypeId → Nat → Option AV) ldNo ldRow (rowQ h id) c t off = _
  rw [rowQ_eq]
  unfold oLoad
  simp only []
  cases h.row id with
  | none => rfl
  | some r =>
    show Option.rec (motive := fun _ => Row → Ctx → TypeId → Nat → Option AV) ldNone ldAgg (c.isAgg t) r c t off = _
    simp only []
    cases c.isAgg t with
    | none => rfl
    | some b =>
      cases b with
      | true => rfl
      | false =>
        show (Bool.rec (motive := fun _ => Option AV) none (some (rowGet r off)) (Nat.ble (off + 1) r.n) : Option AV) = _
        rw [rowGet_eq]
        simp only []
        cases Nat.ble (off + 1) r.n <;> rfl

/-! ### places -/
def irP (m n : Nat) : Option Nat := Bool.rec (motive := fun _ => Option Nat) none (some m) (Nat.ble (Nat.succ m) n)
def irN (_ _ : Nat) : Option Nat := none
def inRangeQ (i : Int) (n : Nat) : Option Nat := Int.rec (motive := fun _ => Nat → Option Nat) irP irN i n
theorem inRangeQ_eq (i : Int) (n : Nat) : inRangeQ i n = inRange i n := by
  cases i with
  | negSucc m => rfl
  | ofNat m =>
    show (Bool.rec (motive := fun _ => Option Nat) none (some m) (Nat.ble (m + 1) n) : Option Nat) = _
    unfold inRange
    simp only []
    cases Nat.ble (m + 1) n <;> rfl

/-! ### what comes of it -/
def valN (_ : Heap) : Option Out := none
def valS (v : AV) (h : Heap) : Option Out := some (.v v h)
def valQ (h : Heap) (r : Option AV) : Option Out := Option.rec (motive := fun _ => Heap → Option Out) valN valS r h
theorem valQ_eq (h : Heap) (r : Option AV) : valQ h r = val h r := by cases r <;> rfl
def evoQ (e : T AV) (x : Option Operand) : Option AV := match x with | some x => some (evQ e x) | none => none
def partsQ (e : T AV) (ps : Array (Nat × Operand)) : List (Nat × AV) := ps.toList.map fun p => (p.1, evQ e p.2)
def evsQ (e : T AV) (l : List Operand) : List AV := List.rec (motive := fun _ => List AV) [] (fun x _ r => evQ e x :: r) l
theorem evsQ_eq (e : T AV) : ∀ l : List Operand, evsQ e l = l.map (ev e)
  | [] => rfl
  | x :: l => by rw [show evsQ e (x :: l) = evQ e x :: evsQ e l from rfl, evQ_eq, evsQ_eq e l]; rfl
theorem evoQ_eq (e : T AV) (x : Option Operand) : evoQ e x = evo e x := by cases x with | none => rfl | some x => simp only [evoQ, evo, evQ_eq]
theorem partsQ_eq (e : T AV) (ps : Array (Nat × Operand)) : partsQ e ps = parts e ps := by unfold partsQ parts; simp only [evQ_eq]
abbrev OpF := Ctx → T AV → Heap → Option Out
def qPickB (v : AV) (e : T AV) (h : Heap) (x y : Operand) : Option Out := match v with | .bool b => some (.v (match b with | true => evQ e x | false => evQ e y) h) | _ => none
def qMkFn (f : Fn) (first cap : Array Operand) (e : T AV) (h : Heap) : Option Out := match f with | .func f => some (.v (.fn (.func f) (evsQ e first.toList) (evsQ e cap.toList)) h) | _ => none
/-! ### calls -/
abbrev CF := Ctx → T AV → Heap → Call → Option Out
def cFn1 (f : FuncId) (first cap : List AV) (e : T AV) (h : Heap) (k : Call) : Option Out := some (.go (.f f) (first ++ evsQ e k.args.toList ++ cap) h)
def cFnV (g : Fn) (first cap : List AV) (e : T AV) (h : Heap) (k : Call) : Option Out :=
  match g with
  | .func f => cFn1 f first cap e h k
  | .yield l => some (.go (.y l) (first ++ evsQ e k.args.toList) h)
  | _ => none
def cNo (_ : T AV) (_ : Heap) (_ : Call) : Option Out := none
def cVal (v : AV) (e : T AV) (h : Heap) (k : Call) : Option Out := AV.rec (motive_1 := fun _ => T AV → Heap → Call → Option Out) (motive_2 := fun _ => PUnit) cNo (fun _ => cNo) (fun _ _ => cNo) (fun _ => cNo) cNo (fun _ _ => cNo) cNo (fun _ _ _ _ _ => cNo) (fun _ => cNo) cNo (fun _ => cNo) cNo (fun x0 x1 x2 _ _ => cFnV x0 x1 x2) cNo (fun _ _ _ => cNo) (fun _ _ => cNo) (fun _ _ => cNo) (fun _ _ => cNo) cNo (fun _ => cNo) (fun _ => cNo) cNo PUnit.unit (fun _ _ _ _ => PUnit.unit) v e h k
def cValue (f : Operand) : CF := fun _ e h k => cVal (evQ e f) e h k
def cInv (_ : Operand) (_ : String) : CF := fun _ _ _ _ => none
def cBui (b : Builtin) : CF := fun c e h k => oBuiltin c h b k.argTypes (evsQ e k.args.toList)
def oCallQ (c : Ctx) (e : T AV) (h : Heap) (k : Call) : Option Out := Callee.rec (motive := fun _ => CF) cValue cInv cBui k.callee c e h k
theorem oCallQ_eq (c : Ctx) (e : T AV) (h : Heap) (k : Call) : oCallQ c e h k = oCall c e h k := by
  unfold oCallQ oCall
  cases k.callee with
  | value f =>
    show cVal (evQ e f) e h k = _
    rw [evQ_eq]
    simp only []
    cases ev e f <;> first | rfl | skip
    rename_i g first cap
    show cFnV g first cap e h k = _
    cases g <;> simp only [cFnV, cFn1, evsQ_eq]
  | invoke r m => rfl
  | builtin b => show oBuiltin c h b k.argTypes (evsQ e k.args.toList) = _; rw [evsQ_eq]


/-! ### which of the two is a constant -/
def bxOld (g : Ctx → BinOp → TypeId → AV → Option AV) (c : Ctx) (op : BinOp) (t : TypeId) (_ : Bool) (y : AV) : Option AV := g c op t y
def oBinNilQ (c : Ctx) (op : BinOp) (t : TypeId) (k : Bool) (y : AV) : Option AV := oBinNil c op t k y
def oBinXQ (c : Ctx) (op : BinOp) (t : TypeId) (k : Bool) (x y : AV) : Option AV := AV.rec (motive_1 := fun _ => Ctx → BinOp → TypeId → Bool → AV → Option AV) (motive_2 := fun _ => PUnit) (bxOld bO_bad) (fun x0 => bxOld (bO_bool x0)) (fun x0 x1 => bxOld (bInt x0 x1)) (fun x0 => bxOld (bO_str x0)) (bxOld bO_nilptr) (fun x0 x1 => bxOld (bO_ptr x0 x1)) (bxOld bO_nilsl) (fun x0 x1 x2 x3 x4 => bxOld (bO_sl x0 x1 x2 x3 x4)) (fun x0 => bxOld (bO_esl x0)) (bxOld bO_nilmp) (fun x0 => bxOld (bO_mp x0)) (bxOld bO_nilfn) (fun x0 x1 x2 _ _ => bxOld (bO_fn x0 x1 x2)) oBinNilQ (fun x0 x1 _ => bxOld (bO_ifc x0 x1)) (fun x0 _ => bxOld (bO_agg x0)) (fun x0 _ => bxOld (bO_tup x0)) (fun x0 x1 => bxOld (bO_gptr x0 x1)) (bxOld bO_anyb) (fun x0 => bxOld (bO_big x0)) (fun x0 => bxOld (bO_low x0)) (bxOld bO_anyi) PUnit.unit (fun _ _ _ _ => PUnit.unit) x c op t k y
theorem oBinXQ_eq (c : Ctx) (op : BinOp) (t : TypeId) (k : Bool) (x y : AV) : oBinXQ c op t k x y = oBinX c op t k x y := by
  cases x with
  | int k1 n1 => exact oBinQ_eq c op t (.int k1 n1) y
  | _ => rfl

def oMove_q (x : Operand) : OpF := fun c e h => some (.v (evQ e x) h)
def oAssign_q (x : Operand) : OpF := fun c e h => some (.v (evQ e x) h)
def oPick_q (b : Operand) (x : Operand) (y : Operand) : OpF := fun c e h => qPickB (evQ e b) e h x y
def oAlloc_q (t : TypeId) : OpF := fun c e h => valH (oAlloc c h t)
def oBox_q (t : TypeId) (x : Operand) : OpF := fun c e h => valH (oBox h t (evQ e x))
def oBuild_q (t : TypeId) (ps : Array (Nat × Operand)) : OpF := fun c e h => valQ h (oBuild c t (partsQ e ps))
def oBuildSlice_q (t : TypeId) (n : Nat) (ps : Array (Nat × Operand)) : OpF := fun c e h => valH (oBuildSlice c h t n (partsQ e ps))
def oInsert_q (t : TypeId) (m : Operand) (k : Operand) (x : Operand) : OpF := fun c e h => unit (oMapUpdate c h t (evQ e m) (evQ e k) (evQ e x))
def oLoad_q (t : TypeId) (a : Operand) : OpF := fun c e h => valQ h (oLoadQ c h t (evQ e a))
def oStore_q (t : TypeId) (a : Operand) (x : Operand) : OpF := fun c e h => unit (oStore c h t (evQ e a) (evQ e x))
def oReady_q (g : Nat) : OpF := fun c e h => none
def oWaits_q (g : Nat) : OpF := fun c e h => none
def oNilCheck_q (x : Operand) : OpF := fun c e h => valQ h (oNilCheck (evQ e x))
def oBinOp_q (op : BinOp) (t : TypeId) (x : Operand) (y : Operand) (u : TypeId) : OpF := fun c e h => valQ h (oBinXQ c op t (constB x y) (evQ e x) (evQ e y))
def oUnOp_q (op : UnOp) (t : TypeId) (x : Operand) : OpF := fun c e h => valQ h (oUn op (evQ e x))
def oConvert_q (s : TypeId) (t : TypeId) (x : Operand) : OpF := fun c e h => valH (oConvert c h s t (evQ e x))
def oSliceToArrayPointer_q (t : TypeId) (x : Operand) : OpF := fun c e h => valQ h (oToArrayPtr c t (evQ e x))
def oMakeInterface_q (t : TypeId) (x : Operand) : OpF := fun c e h => valQ h (oMakeInterface c t (evQ e x))
def oMakeFunc_q (f : Fn) (a : Array Operand) (b : Array Operand) : OpF := fun c e h => qMkFn f a b e h
def oMakeMap_q (t : TypeId) (r : Option Operand) : OpF := fun c e h => valH (oMakeMap c h t (evoQ e r))
def oMakeChan_q (t : TypeId) (x : Operand) : OpF := fun c e h => none
def oMakeSlice_q (t : TypeId) (l : Operand) (k : Operand) : OpF := fun c e h => valH (oMakeSlice c h t (evQ e l) (evQ e k))
def oSlice_q (t : TypeId) (x : Operand) (lo : Option Operand) (hi : Option Operand) (mx : Option Operand) : OpF := fun c e h => valQ h (oSliceH c h t (evQ e x) (evoQ e lo) (evoQ e hi) (evoQ e mx))
def oFieldAddr_q (t : TypeId) (x : Operand) (i : Nat) : OpF := fun c e h => valQ h (oFieldAddr c t (evQ e x) i)
def oField_q (t : TypeId) (x : Operand) (i : Nat) : OpF := fun c e h => valQ h (oField c t (evQ e x) i)
def oIndexAddr_q (t : TypeId) (x : Operand) (i : Operand) : OpF := fun c e h => valQ h (oIndexAddr c t (evQ e x) (evQ e i))
def oIndex_q (t : TypeId) (x : Operand) (i : Operand) : OpF := fun c e h => valQ h (oIndex c t (evQ e x) (evQ e i))
def oLookup_q (t : TypeId) (x : Operand) (k : Operand) (ok : Bool) : OpF := fun c e h => valQ h (oLookup c h t (evQ e x) (evQ e k) ok)
def oMapUpdate_q (t : TypeId) (m : Operand) (k : Operand) (x : Operand) : OpF := fun c e h => unit (oMapUpdate c h t (evQ e m) (evQ e k) (evQ e x))
def oMapEntry_q (t : TypeId) (m : Operand) (k : Operand) : OpF := fun c e h => valH (oMapEntry c h t (evQ e m) (evQ e k))
def oEntryStore_q (t : TypeId) (m : Operand) (s : Operand) (x : Operand) : OpF := fun c e h => unit (oEntryStore h (evQ e m) (evQ e s) (evQ e x))
def oRange_q (t : TypeId) (x : Operand) : OpF := fun c e h => valH (oRange c h t (evQ e x))
def oNext_q (x : Operand) (s : Bool) : OpF := fun c e h => valH (oNext h (evQ e x) s)
def oEntry_q (x : Operand) : OpF := fun c e h => valQ h (oEntry h (evQ e x))
def oTypeAssert_q (x : Operand) (t : TypeId) (u : TypeId) (ok : Bool) : OpF := fun c e h => none
def oExtract_q (x : Operand) (i : Nat) : OpF := fun c e h => valQ h (oExtract (evQ e x) i)
def oCall_q (k : Call) : OpF := fun c e h => oCallQ c e h k
def oGo_q (k : Call) : OpF := fun c e h => none
def oDefer_q (k : Call) : OpF := fun c e h => none
def oPanic_q (x : Operand) : OpF := fun c e h => none
def oSend_q (a : Operand) (b : Operand) : OpF := fun c e h => none
def oRecv_q (t : TypeId) (a : Operand) (ok : Bool) : OpF := fun c e h => none
def oSelect_q (cs : Array SelectCase) (b : Bool) : OpF := fun c e h => none
def opQ (c : Ctx) (e : T AV) (h : Heap) (o : Op) : Option Out :=
  Op.rec (motive := fun _ => OpF) oMove_q oAssign_q oPick_q oAlloc_q oBox_q oBuild_q oBuildSlice_q oInsert_q oLoad_q oStore_q oReady_q oWaits_q oNilCheck_q oBinOp_q oUnOp_q oConvert_q oSliceToArrayPointer_q oMakeInterface_q oMakeFunc_q oMakeMap_q oMakeChan_q oMakeSlice_q oSlice_q oFieldAddr_q oField_q oIndexAddr_q oIndex_q oLookup_q oMapUpdate_q oMapEntry_q oEntryStore_q oRange_q oNext_q oEntry_q oTypeAssert_q oExtract_q oCall_q oGo_q oDefer_q oPanic_q oSend_q oRecv_q oSelect_q o c e h

theorem opQ_eq (c : Ctx) (e : T AV) (h : Heap) (o : Op) : opQ c e h o = opA c e h o := by
  cases o <;> simp only [opQ, opA, oMove_q, oAssign_q, oPick_q, oAlloc_q, oBox_q, oBuild_q, oBuildSlice_q, oInsert_q, oLoad_q, oStore_q, oReady_q, oWaits_q, oNilCheck_q, oBinOp_q, oUnOp_q, oConvert_q, oSliceToArrayPointer_q, oMakeInterface_q, oMakeFunc_q, oMakeMap_q, oMakeChan_q, oMakeSlice_q, oSlice_q, oFieldAddr_q, oField_q, oIndexAddr_q, oIndex_q, oLookup_q, oMapUpdate_q, oMapEntry_q, oEntryStore_q, oRange_q, oNext_q, oEntry_q, oTypeAssert_q, oExtract_q, oCall_q, oGo_q, oDefer_q, oPanic_q, oSend_q, oRecv_q, oSelect_q, evQ_eq, evoQ_eq, partsQ_eq, valQ_eq, oBinXQ_eq, oLoadQ_eq, oCallQ_eq]
  case pick b x y => unfold qPickB; simp only [evQ_eq]; cases ev e b <;> rfl
  case makeFunc f a b => unfold qMkFn; simp only [evsQ_eq]; cases f <;> rfl

end Go.Ax
