/-
  AxQa: the evaluator again, written so that the kernel makes few terms: every branch is a closed name.
-/
import Derived.Test.YtaopfnhkfedemaaGreatDoorAxB
set_option linter.unusedVariables false
set_option linter.unusedSimpArgs false
noncomputable section
namespace Go.Ax

/-! ### numbers -/
def addPP (n m : Nat) : Int := .ofNat (Nat.add m n)
def addPN (n m : Nat) : Int := Int.ofNat m + Int.negSucc n
def addP (m : Nat) (b : Int) : Int := Int.rec (motive := fun _ => Nat → Int) addPP addPN b m
def addN (m : Nat) (b : Int) : Int := Int.negSucc m + b
def addQ (a b : Int) : Int := Int.rec (motive := fun _ => Int → Int) addP addN a b
theorem addQ_eq (a b : Int) : addQ a b = a + b := by cases a <;> cases b <;> rfl
def subPP (n m : Nat) : Int := Bool.rec (motive := fun _ => Int) (Int.ofNat m - Int.ofNat n) (.ofNat (Nat.sub m n)) (Nat.ble n m)
def subPN (n m : Nat) : Int := Int.ofNat m - Int.negSucc n
def subP (m : Nat) (b : Int) : Int := Int.rec (motive := fun _ => Nat → Int) subPP subPN b m
def subN (m : Nat) (b : Int) : Int := Int.negSucc m - b
def subQ (a b : Int) : Int := Int.rec (motive := fun _ => Int → Int) subP subN a b
theorem subQ_eq (a b : Int) : subQ a b = a - b := by
  cases a with
  | negSucc m => rfl
  | ofNat m =>
    cases b with
    | negSucc n => rfl
    | ofNat n =>
      show (Bool.rec (motive := fun _ => Int) (Int.ofNat m - Int.ofNat n) (.ofNat (m - n)) (Nat.ble n m) : Int) = Int.ofNat m - Int.ofNat n
      cases h : Nat.ble n m with
      | false => rfl
      | true =>
        have := Nat.le_of_ble_eq_true h
        show ((m - n : Nat) : Int) = (m : Int) - (n : Int)
        omega
def hw (k : IntKind) : Nat := IntKind.rec (motive := fun _ => Nat) 128 32768 2147483648 9223372036854775808 256 65536 4294967296 18446744073709551616 k
def wrP (a : Nat) (k : IntKind) : Int := Bool.rec (motive := fun _ => Int) (wr k (.ofNat a)) (.ofNat a) (Nat.ble (Nat.succ a) (hw k))
def wrN (a : Nat) (k : IntKind) : Int := wr k (.negSucc a)
def wrQ (k : IntKind) (n : Int) : Int := Int.rec (motive := fun _ => IntKind → Int) wrP wrN n k
theorem wrQ_eq (k : IntKind) (n : Int) : wrQ k n = wr k n := by
  cases n with
  | negSucc a => rfl
  | ofNat a =>
    show (Bool.rec (motive := fun _ => Int) (wr k (.ofNat a)) (.ofNat a) (Nat.ble (a + 1) (hw k)) : Int) = _
    cases h : Nat.ble (a + 1) (hw k) with
    | false => rfl
    | true =>
      have h1 := Nat.le_of_ble_eq_true h
      show Int.ofNat a = wr k (.ofNat a)
      have hum : um k (.ofNat a) = a := by
        unfold um
        cases k <;> simp only [hw, pw] at h1 ⊢ <;> exact Nat.mod_eq_of_lt (by omega)
      unfold wr
      rw [hum]
      cases hs : k.signed with
      | false => rfl
      | true =>
        have : Nat.ble (pw k) (2 * a) = false := by
          cases e : Nat.ble (pw k) (2 * a) with
          | false => rfl
          | true =>
            have h2 := Nat.le_of_ble_eq_true e
            cases k <;> simp only [hw, pw, IntKind.signed] at h1 h2 hs <;> first | omega | cases hs
        rw [this]
def ieqPP (n m : Nat) : Bool := Nat.beq m n
def ieqPN (_ _ : Nat) : Bool := false
def ieqP (m : Nat) (b : Int) : Bool := Int.rec (motive := fun _ => Nat → Bool) ieqPP ieqPN b m
def ieqN (m : Nat) (b : Int) : Bool := ieq (.negSucc m) b
def ieqQ (a b : Int) : Bool := Int.rec (motive := fun _ => Int → Bool) ieqP ieqN a b
theorem ieqQ_eq (a b : Int) : ieqQ a b = ieq a b := by cases a <;> cases b <;> rfl
def iltPP (n m : Nat) : Bool := Nat.ble (Nat.succ m) n
def iltPN (_ _ : Nat) : Bool := false
def iltP (m : Nat) (b : Int) : Bool := Int.rec (motive := fun _ => Nat → Bool) iltPP iltPN b m
def iltN (m : Nat) (b : Int) : Bool := ilt (.negSucc m) b
def iltQ (a b : Int) : Bool := Int.rec (motive := fun _ => Int → Bool) iltP iltN a b
theorem iltQ_eq (a b : Int) : iltQ a b = ilt a b := by cases a <;> cases b <;> rfl

def ik_i8 (j : IntKind) : Bool := IntKind.rec (motive := fun _ => Bool) true false false false false false false false j
def ik_i16 (j : IntKind) : Bool := IntKind.rec (motive := fun _ => Bool) false true false false false false false false j
def ik_i32 (j : IntKind) : Bool := IntKind.rec (motive := fun _ => Bool) false false true false false false false false j
def ik_i64 (j : IntKind) : Bool := IntKind.rec (motive := fun _ => Bool) false false false true false false false false j
def ik_u8 (j : IntKind) : Bool := IntKind.rec (motive := fun _ => Bool) false false false false true false false false j
def ik_u16 (j : IntKind) : Bool := IntKind.rec (motive := fun _ => Bool) false false false false false true false false j
def ik_u32 (j : IntKind) : Bool := IntKind.rec (motive := fun _ => Bool) false false false false false false true false j
def ik_u64 (j : IntKind) : Bool := IntKind.rec (motive := fun _ => Bool) false false false false false false false true j
def ikQ (k j : IntKind) : Bool := IntKind.rec (motive := fun _ => IntKind → Bool) ik_i8 ik_i16 ik_i32 ik_i64 ik_u8 ik_u16 ik_u32 ik_u64 k j
theorem ikQ_eq (k j : IntKind) : ikQ k j = ikEq k j := by cases k <;> cases j <;> rfl
def tAdd (k : IntKind) (a b : Int) : Option AV := some (.int k (wrQ k (addQ a b)))
def tSub (k : IntKind) (a b : Int) : Option AV := some (.int k (wrQ k (subQ a b)))
def tEql (_ : IntKind) (a b : Int) : Option AV := some (.bool (ieqQ a b))
def tNeq (_ : IntKind) (a b : Int) : Option AV := some (.bool (Bool.rec true false (ieqQ a b)))
def tLss (_ : IntKind) (a b : Int) : Option AV := some (.bool (iltQ a b))
def tLeq (_ : IntKind) (a b : Int) : Option AV := some (.bool (Bool.rec true false (iltQ b a)))
def tGtr (_ : IntKind) (a b : Int) : Option AV := some (.bool (iltQ b a))
def tGeq (_ : IntKind) (a b : Int) : Option AV := some (.bool (Bool.rec true false (iltQ a b)))

def b_add (k : IntKind) (a : Int) (j : IntKind) (b : Int) : Option AV := Bool.rec (motive := fun _ => Option AV) none (tAdd k a b) (ikQ k j)
def b_sub (k : IntKind) (a : Int) (j : IntKind) (b : Int) : Option AV := Bool.rec (motive := fun _ => Option AV) none (tSub k a b) (ikQ k j)
def b_mul (k : IntKind) (a : Int) (j : IntKind) (b : Int) : Option AV := Bool.rec (motive := fun _ => Option AV) none (intOp .mul k a b) (ikQ k j)
def b_quo (k : IntKind) (a : Int) (j : IntKind) (b : Int) : Option AV := Bool.rec (motive := fun _ => Option AV) none (intOp .quo k a b) (ikQ k j)
def b_rem (k : IntKind) (a : Int) (j : IntKind) (b : Int) : Option AV := Bool.rec (motive := fun _ => Option AV) none (intOp .rem k a b) (ikQ k j)
def b_and (k : IntKind) (a : Int) (j : IntKind) (b : Int) : Option AV := Bool.rec (motive := fun _ => Option AV) none (intOp .and k a b) (ikQ k j)
def b_or (k : IntKind) (a : Int) (j : IntKind) (b : Int) : Option AV := Bool.rec (motive := fun _ => Option AV) none (intOp .or k a b) (ikQ k j)
def b_xor (k : IntKind) (a : Int) (j : IntKind) (b : Int) : Option AV := Bool.rec (motive := fun _ => Option AV) none (intOp .xor k a b) (ikQ k j)
def b_shl (k : IntKind) (a : Int) (_ : IntKind) (b : Int) : Option AV := shiftOp .shl k a b
def b_shr (k : IntKind) (a : Int) (_ : IntKind) (b : Int) : Option AV := shiftOp .shr k a b
def b_andNot (k : IntKind) (a : Int) (j : IntKind) (b : Int) : Option AV := Bool.rec (motive := fun _ => Option AV) none (intOp .andNot k a b) (ikQ k j)
def b_eql (k : IntKind) (a : Int) (j : IntKind) (b : Int) : Option AV := Bool.rec (motive := fun _ => Option AV) none (tEql k a b) (ikQ k j)
def b_neq (k : IntKind) (a : Int) (j : IntKind) (b : Int) : Option AV := Bool.rec (motive := fun _ => Option AV) none (tNeq k a b) (ikQ k j)
def b_lss (k : IntKind) (a : Int) (j : IntKind) (b : Int) : Option AV := Bool.rec (motive := fun _ => Option AV) none (tLss k a b) (ikQ k j)
def b_leq (k : IntKind) (a : Int) (j : IntKind) (b : Int) : Option AV := Bool.rec (motive := fun _ => Option AV) none (tLeq k a b) (ikQ k j)
def b_gtr (k : IntKind) (a : Int) (j : IntKind) (b : Int) : Option AV := Bool.rec (motive := fun _ => Option AV) none (tGtr k a b) (ikQ k j)
def b_geq (k : IntKind) (a : Int) (j : IntKind) (b : Int) : Option AV := Bool.rec (motive := fun _ => Option AV) none (tGeq k a b) (ikQ k j)
def bTab (op : BinOp) : IntKind → Int → IntKind → Int → Option AV := BinOp.rec (motive := fun _ => IntKind → Int → IntKind → Int → Option AV) b_add b_sub b_mul b_quo b_rem b_and b_or b_xor b_shl b_shr b_andNot b_eql b_neq b_lss b_leq b_gtr b_geq op
def bIntInt (j : IntKind) (b : Int) (k : IntKind) (a : Int) (op : BinOp) : Option AV := bTab op k a j b
def bIntNo (_ : IntKind) (_ : Int) (_ : BinOp) : Option AV := none
def bIntBig (n : Nat) (k : IntKind) (a : Int) (op : BinOp) : Option AV := bigOp op k a n
def bIntLow (n : Nat) (k : IntKind) (a : Int) (op : BinOp) : Option AV := lowOp op k a n
def bInt (k : IntKind) (a : Int) (c : Ctx) (op : BinOp) (t : TypeId) (y : AV) : Option AV := AV.rec (motive_1 := fun _ => IntKind → Int → BinOp → Option AV) (motive_2 := fun _ => PUnit) bIntNo (fun _ => bIntNo) bIntInt (fun _ => bIntNo) bIntNo (fun _ _ => bIntNo) bIntNo (fun _ _ _ _ _ => bIntNo) (fun _ => bIntNo) bIntNo (fun _ => bIntNo) bIntNo (fun _ _ _ _ _ => bIntNo) bIntNo (fun _ _ _ => bIntNo) (fun _ _ => bIntNo) (fun _ _ => bIntNo) (fun _ _ => bIntNo) bIntNo bIntBig bIntLow bIntNo PUnit.unit (fun _ _ _ _ => PUnit.unit) y k a op
def bO_bad  (c : Ctx) (op : BinOp) (t : TypeId) (y : AV) : Option AV := oBin c op t (.bad) y
def bO_bool (x0 : Bool) (c : Ctx) (op : BinOp) (t : TypeId) (y : AV) : Option AV := oBin c op t (.bool x0) y
def bO_str (x0 : List Nat) (c : Ctx) (op : BinOp) (t : TypeId) (y : AV) : Option AV := oBin c op t (.str x0) y
def bO_nilptr  (c : Ctx) (op : BinOp) (t : TypeId) (y : AV) : Option AV := oBin c op t (.nilptr) y
def bO_ptr (x0 : Nat) (x1 : Nat) (c : Ctx) (op : BinOp) (t : TypeId) (y : AV) : Option AV := oBin c op t (.ptr x0 x1) y
def bO_nilsl  (c : Ctx) (op : BinOp) (t : TypeId) (y : AV) : Option AV := oBin c op t (.nilsl) y
def bO_sl (x0 : Nat) (x1 : Nat) (x2 : Nat) (x3 : Option Nat) (x4 : Nat) (c : Ctx) (op : BinOp) (t : TypeId) (y : AV) : Option AV := oBin c op t (.sl x0 x1 x2 x3 x4) y
def bO_esl (x0 : Nat) (c : Ctx) (op : BinOp) (t : TypeId) (y : AV) : Option AV := oBin c op t (.esl x0) y
def bO_nilmp  (c : Ctx) (op : BinOp) (t : TypeId) (y : AV) : Option AV := oBin c op t (.nilmp) y
def bO_mp (x0 : Nat) (c : Ctx) (op : BinOp) (t : TypeId) (y : AV) : Option AV := oBin c op t (.mp x0) y
def bO_nilfn  (c : Ctx) (op : BinOp) (t : TypeId) (y : AV) : Option AV := oBin c op t (.nilfn) y
def bO_fn (x0 : Fn) (x1 : List AV) (x2 : List AV) (c : Ctx) (op : BinOp) (t : TypeId) (y : AV) : Option AV := oBin c op t (.fn x0 x1 x2) y
def bO_nilifc  (c : Ctx) (op : BinOp) (t : TypeId) (y : AV) : Option AV := oBin c op t (.nilifc) y
def bO_ifc (x0 : TypeId) (x1 : AV) (c : Ctx) (op : BinOp) (t : TypeId) (y : AV) : Option AV := oBin c op t (.ifc x0 x1) y
def bO_agg (x0 : List AV) (c : Ctx) (op : BinOp) (t : TypeId) (y : AV) : Option AV := oBin c op t (.agg x0) y
def bO_tup (x0 : List AV) (c : Ctx) (op : BinOp) (t : TypeId) (y : AV) : Option AV := oBin c op t (.tup x0) y
def bO_gptr (x0 : Nat) (x1 : Nat) (c : Ctx) (op : BinOp) (t : TypeId) (y : AV) : Option AV := oBin c op t (.gptr x0 x1) y
def bO_anyb (c : Ctx) (op : BinOp) (t : TypeId) (y : AV) : Option AV := oBin c op t .anyb y
def bO_big (x0 : Nat) (c : Ctx) (op : BinOp) (t : TypeId) (y : AV) : Option AV := oBin c op t (.big x0) y
def bO_low (x0 : Nat) (c : Ctx) (op : BinOp) (t : TypeId) (y : AV) : Option AV := oBin c op t (.low x0) y
def bO_anyi (c : Ctx) (op : BinOp) (t : TypeId) (y : AV) : Option AV := oBin c op t .anyi y
def oBinQ (c : Ctx) (op : BinOp) (t : TypeId) (x y : AV) : Option AV := AV.rec (motive_1 := fun _ => Ctx → BinOp → TypeId → AV → Option AV) (motive_2 := fun _ => PUnit) bO_bad bO_bool bInt bO_str bO_nilptr bO_ptr bO_nilsl bO_sl bO_esl bO_nilmp bO_mp bO_nilfn (fun x0 x1 x2 _ _ => bO_fn x0 x1 x2) bO_nilifc (fun x0 x1 _ => bO_ifc x0 x1) (fun x0 _ => bO_agg x0) (fun x0 _ => bO_tup x0) bO_gptr bO_anyb bO_big bO_low bO_anyi PUnit.unit (fun _ _ _ _ => PUnit.unit) x c op t y
theorem bTab_eq (c : Ctx) (t : TypeId) (op : BinOp) (k : IntKind) (a : Int) (j : IntKind) (b : Int) : bTab op k a j b = oBin c op t (.int k a) (.int j b) := by
  have hk := ikQ_eq k j
  cases op <;> simp only [bTab, b_add, b_sub, b_mul, b_quo, b_rem, b_and, b_or, b_xor, b_shl, b_shr, b_andNot, b_eql, b_neq, b_lss, b_leq, b_gtr, b_geq, oBin, hk] <;>
    first
    | rfl
    | (cases ikEq k j <;> simp only [intOp, tAdd, tSub, tEql, tNeq, tLss, tLeq, tGtr, tGeq, wrQ_eq, addQ_eq, subQ_eq, ieqQ_eq, iltQ_eq] <;> first | rfl | (cases ieq a b <;> rfl) | (cases ilt a b <;> rfl) | (cases ilt b a <;> rfl))
theorem oBinQ_eq (c : Ctx) (op : BinOp) (t : TypeId) (x y : AV) : oBinQ c op t x y = oBin c op t x y := by
  cases x <;> first | rfl | skip
  rename_i k a
  cases y <;> first | rfl | skip
  rename_i j b
  exact bTab_eq c t op k a j b

end Go.Ax
