/-
  AxA: an evaluator of its own for the model's code: values with numbers for blocks, a heap that is a tree, memory whose capacities are left open. What it says is proved sound in the texts behind it.
-/
import Derived.WalkKit
import Derived.RangeFuncLeaves
noncomputable section
namespace Go.Ax

/-- A value, blocks by number; 'bad': any value. -/
inductive AV where
  | bad
  | bool (b : Bool)
  | int (k : IntKind) (n : Int)
  | str (l : List Nat)
  | nilptr
  | ptr (id off : Nat)
  | nilsl
  | sl (id off len : Nat) (cap : Option Nat) (z : Nat)
  | esl (id : Nat)
  | nilmp
  | mp (id : Nat)
  | nilfn
  | fn (f : Fn) (first cap : List AV)
  | nilifc
  | ifc (t : TypeId) (v : AV)
  | agg (l : List AV)
  | tup (l : List AV)

def und : AV := .tup []

/-! ## trees -/
inductive T (α : Type) where
  | leaf
  | node (v : α) (l r : T α)

def T.get {α : Type} (d : α) (t : T α) : Nat → α :=
  T.rec (motive := fun _ => Nat → α) (fun _ => d)
    (fun v _ _ gl gr i => Bool.rec (motive := fun _ => α) (Bool.rec (motive := fun _ => α) (gl (Nat.div i 2)) (gr (Nat.sub (Nat.div i 2) 1)) (Nat.beq (Nat.mod i 2) 0)) v (Nat.beq i 0)) t
def T.setF {α : Type} (d x : α) (f : Nat) : T α → Nat → T α :=
  Nat.rec (motive := fun _ => T α → Nat → T α) (fun t _ => t)
    (fun _ ih t => T.rec (motive := fun _ => Nat → T α)
      (fun i => Bool.rec (motive := fun _ => T α) (Bool.rec (motive := fun _ => T α) (.node d (ih .leaf (Nat.div i 2)) .leaf) (.node d .leaf (ih .leaf (Nat.sub (Nat.div i 2) 1))) (Nat.beq (Nat.mod i 2) 0)) (.node x .leaf .leaf) (Nat.beq i 0))
      (fun v l r _ _ i => Bool.rec (motive := fun _ => T α) (Bool.rec (motive := fun _ => T α) (.node v (ih l (Nat.div i 2)) r) (.node v l (ih r (Nat.sub (Nat.div i 2) 1))) (Nat.beq (Nat.mod i 2) 0)) (.node x l r) (Nat.beq i 0)) t) f
def T.set {α : Type} (d : α) (t : T α) (i : Nat) (x : α) : T α := T.setF d x (i + 1) t i
/-- a list laid from place i on -/
def T.put {α : Type} (d : α) (l : List α) : T α → Nat → T α :=
  List.rec (motive := fun _ => T α → Nat → T α) (fun t _ => t) (fun x _ ih t i => ih (t.set d i x) (i + 1)) l
def nth {α : Type} (l : List α) : Nat → Option α :=
  List.rec (motive := fun _ => Nat → Option α) (fun _ => none) (fun x _ ih i => Bool.rec (motive := fun _ => Option α) (ih (Nat.sub i 1)) (some x) (Nat.beq i 0)) l

/-! ## memory -/
/-- A row of cells: those that were written since, else the pattern's; 'root': the chain of rows that it may share a block with. -/
structure Row where
  t : TypeId
  n : Nat
  c : T (Option AV)
  pat : List AV
  root : Option Nat

inductive Ex where
  | normal
  | exit (id : Nat)
  | ret

structure ALoop where
  state : LoopState
  pending : Option Ex
  fn : FuncId
  e : T AV
  sz : Nat
  params : List Tmp
  assign : Code
  body : Code
  defers : Nat

inductive AB where
  | none
  | row (r : Row)
  | map (es : List (AV × AV × Nat)) (clock : Nat)
  | loop (l : ALoop)
  | dfr (live : Bool)
  | sit (l : List Nat) (pos : Nat)
  | mit (m : Option Nat) (since : Nat) (seen : List Nat) (last : Nat)

structure Heap where
  nxt : Nat
  blk : T AB
  tips : T (Option Nat)

def Heap.get (h : Heap) (id : Nat) : AB := h.blk.get .none id
def Heap.put (h : Heap) (id : Nat) (b : AB) : Heap := ⟨h.nxt, h.blk.set .none id b, h.tips⟩
def Heap.new (h : Heap) (b : AB) : Heap := ⟨h.nxt + 1, h.blk.set .none h.nxt b, h.tips⟩
def Heap.tip (h : Heap) (r : Nat) : Option Nat := h.tips.get none r

/-- A row that may be read. -/
def Heap.row (h : Heap) (id : Nat) : Option Row :=
  match h.get id with
  | .row r => (match r.root with
    | none => some r
    | some q => (match h.tip q with | some _ => some r | none => none))
  | _ => none

def Row.get (r : Row) (i : Nat) : AV :=
  match r.c.get none i with
  | some v => v
  | none => (match nth r.pat (i % r.pat.length) with | some v => v | none => .bad)
def Row.read (r : Row) (off n : Nat) : List AV :=
  Nat.rec (motive := fun _ => Nat → List AV) (fun _ => []) (fun _ ih i => r.get i :: ih (i + 1)) n off
def Row.write (r : Row) (off : Nat) (l : List AV) : Row :=
  { r with c := List.rec (motive := fun _ => T (Option AV) → Nat → T (Option AV)) (fun t _ => t) (fun x _ ih t i => ih (t.set none i (some x)) (i + 1)) l r.c off }

/-- A row to be written: its chain's other rows are forgotten. -/
def Heap.mine (h : Heap) (id : Nat) : Option (Row × Heap) :=
  match h.get id with
  | .row r => (match r.root with
    | none => some (r, h)
    | some q => (match h.tip q with
      | some t => (match Nat.beq t id with
        | true => some ({ r with root := none }, ⟨h.nxt, h.blk, h.tips.set none q none⟩)
        | false => none)
      | none => none))
  | _ => none

/-! ## the program -/
structure Ctx where
  P : Program
  tys : T (Option TypeInfo)
  fns : T (Option Func)
  eqs : T Bool

def Ctx.info (c : Ctx) (t : TypeId) : Option TypeInfo := c.tys.get none t
def Ctx.under (c : Ctx) (t : TypeId) : Option TypeDesc :=
  match c.info t with
  | some i => (match i.desc with
    | .named _ u => (match c.info u with | some j => some j.desc | none => none)
    | d => some d)
  | none => none
def Ctx.size (c : Ctx) (t : TypeId) : Option Nat := match c.info t with | some i => some i.size | none => none
/-- is it a struct or an array -/
def Ctx.isAgg (c : Ctx) (t : TypeId) : Option Bool :=
  match c.under t with
  | some d => (match d with | .struct _ => some true | .array _ _ => some true | _ => some false)
  | none => none

def ofV0 (v : Value) : AV :=
  match v with
  | .bool b => .bool b
  | .int k n => .int k n
  | .string s => .str (s.data.toList.map UInt8.toNat)
  | .pointer a => (match a with | none => .nilptr | some _ => .bad)
  | .slice a l c => (match a with | none => (match Nat.beq l 0 with | true => (match Nat.beq c 0 with | true => .nilsl | false => .bad) | false => .bad) | some _ => .bad)
  | .map r => (match r with | none => .nilmp | some _ => .bad)
  | .nilFunc => .nilfn
  | .nilIface => .nilifc
  | _ => .bad
def ofV (v : Value) : AV :=
  match v with
  | .agg cs => .agg (cs.toList.map ofV0)
  | .tuple cs => .tup (cs.toList.map ofV0)
  | .iface t v => .ifc t (ofV0 v)
  | v => ofV0 v
def Ctx.zero (c : Ctx) (t : TypeId) : Option AV :=
  match c.info t with
  | some i => (match i.zero with | some v => some (ofV v) | none => none)
  | none => none

def AV.cells (v : AV) : List AV := match v with | .agg l => l | v => [v]

def ev (e : T AV) (x : Operand) : AV :=
  match x with
  | .tmp t => e.get und t
  | .const v => ofV v
  | .global _ => .bad
  | .func f => .fn (.func f) [] []

/-! ## numbers -/
def ilt (a b : Int) : Bool :=
  match a with
  | .ofNat a => (match b with | .ofNat b => Nat.ble (a + 1) b | .negSucc _ => false)
  | .negSucc a => (match b with | .ofNat _ => true | .negSucc b => Nat.ble (b + 1) a)
def ieq (a b : Int) : Bool :=
  match a with
  | .ofNat a => (match b with | .ofNat b => Nat.beq a b | .negSucc _ => false)
  | .negSucc a => (match b with | .ofNat _ => false | .negSucc b => Nat.beq a b)
def pw (k : IntKind) : Nat := match k with | .i8 | .u8 => 256 | .i16 | .u16 => 65536 | .i32 | .u32 => 4294967296 | .i64 | .u64 => 18446744073709551616
/-- an integer's rest by 2^bits -/
def um (k : IntKind) (n : Int) : Nat :=
  match n with
  | .ofNat a => a % pw k
  | .negSucc a => pw k - 1 - a % pw k
def wr (k : IntKind) (n : Int) : Int :=
  match k.signed with
  | false => .ofNat (um k n)
  | true => (match Nat.ble (pw k) (2 * um k n) with
    | false => .ofNat (um k n)
    | true => .negSucc (pw k - 1 - um k n))
def bitw : IntKind → Nat
  | .i8 | .u8 => 8
  | .i16 | .u16 => 16
  | .i32 | .u32 => 32
  | .i64 | .u64 => 64
def ikEq (a b : IntKind) : Bool :=
  match a with
  | .i8 => (match b with | .i8 => true | _ => false)
  | .i16 => (match b with | .i16 => true | _ => false)
  | .i32 => (match b with | .i32 => true | _ => false)
  | .i64 => (match b with | .i64 => true | _ => false)
  | .u8 => (match b with | .u8 => true | _ => false)
  | .u16 => (match b with | .u16 => true | _ => false)
  | .u32 => (match b with | .u32 => true | _ => false)
  | .u64 => (match b with | .u64 => true | _ => false)

def intOp (op : BinOp) (k : IntKind) (a b : Int) : Option AV :=
  match op with
  | .add => some (.int k (wr k (a + b)))
  | .sub => some (.int k (wr k (a - b)))
  | .mul => some (.int k (wr k (a * b)))
  | .quo => (match ieq b 0 with | true => none | false => some (.int k (wr k (a.tdiv b))))
  | .rem => (match ieq b 0 with | true => none | false => some (.int k (a.tmod b)))
  | .and => some (.int k (wr k (.ofNat (Nat.land (um k a) (um k b)))))
  | .or => some (.int k (wr k (.ofNat (Nat.lor (um k a) (um k b)))))
  | .xor => some (.int k (wr k (.ofNat (Nat.xor (um k a) (um k b)))))
  | .andNot => some (.int k (wr k (.ofNat (Nat.land (um k a) (pw k - 1 - um k b)))))
  | .eql => some (.bool (ieq a b))
  | .neq => some (.bool (!ieq a b))
  | .lss => some (.bool (ilt a b))
  | .leq => some (.bool (!ilt b a))
  | .gtr => some (.bool (ilt b a))
  | .geq => some (.bool (!ilt a b))
  | _ => none
def shiftOp (op : BinOp) (k : IntKind) (a b : Int) : Option AV :=
  match b with
  | .negSucc _ => none
  | .ofNat b => (match op with
    | .shl => (match a with
      | .ofNat a => some (.int k (wr k (.ofNat (Nat.shiftLeft a (min b (bitw k))))))
      | .negSucc _ => some (.int k (wr k (a * 2 ^ (min b (bitw k))))))
    | .shr => (match a with
      | .ofNat a => some (.int k (.ofNat (Nat.shiftRight a (min b (bitw k)))))
      | .negSucc _ => some (.int k (a.fdiv (2 ^ (min b (bitw k))))))
    | _ => none)

/-! ## texts -/
def strEq (a : List Nat) : List Nat → Bool :=
  List.rec (motive := fun _ => List Nat → Bool) (fun b => match b with | [] => true | _ :: _ => false)
    (fun x _ ih b => match b with | [] => false | y :: b => (match Nat.beq (x % 256) (y % 256) with | true => ih b | false => false)) a
def strLt (a : List Nat) : List Nat → Bool :=
  List.rec (motive := fun _ => List Nat → Bool) (fun b => match b with | [] => false | _ :: _ => true)
    (fun x _ ih b => match b with | [] => false | y :: b => (match Nat.beq (x % 256) (y % 256) with | true => ih b | false => Nat.ble (x % 256 + 1) (y % 256))) a
def strOp (op : BinOp) (a b : List Nat) : Option AV :=
  match op with
  | .add => (match Nat.ble (a.length + b.length) 1000000000 with | true => some (.str (a ++ b)) | false => none)
  | .eql => some (.bool (strEq a b))
  | .neq => some (.bool (!strEq a b))
  | .lss => some (.bool (strLt a b))
  | .leq => some (.bool (strLt a b || strEq a b))
  | .gtr => some (.bool (!(strLt a b || strEq a b)))
  | .geq => some (.bool (!strLt a b))
  | _ => none

/-- fields, one behind the other -/
def eqFields (c : Ctx) (ih : TypeId → AV → AV → Option Bool) (xs ys : List AV) (fs : List Field) : Option Bool :=
  List.rec (motive := fun _ => Option Bool) (some true)
    (fun f _ r => match c.isAgg f.type with
      | some false => (match nth xs f.offset with
        | some u => (match nth ys f.offset with
          | some v => (match ih f.type u v with | some true => r | some false => some false | none => none)
          | none => none)
        | none => none)
      | some true => (match c.size f.type with
        | some s => (match ih f.type (.agg ((xs.drop f.offset).take s)) (.agg ((ys.drop f.offset).take s)) with | some true => r | some false => some false | none => none)
        | none => none)
      | none => none) fs
/-- an array's cells, from place i on -/
def eqCells (ih : TypeId → AV → AV → Option Bool) (t : TypeId) (xs ys : List AV) (m : Nat) : Nat → Option Bool :=
  Nat.rec (motive := fun _ => Nat → Option Bool) (fun _ => some true)
    (fun _ r i => match nth xs i with
      | some u => (match nth ys i with
        | some v => (match ih t u v with | some true => r (i + 1) | some false => some false | none => none)
        | none => none)
      | none => none) m
def eqPtr (x y : AV) : Option Bool :=
  match x with
  | .nilptr => (match y with | .nilptr => some true | .ptr _ _ => some false | _ => none)
  | .ptr _ _ => (match y with | .nilptr => some false | _ => none)
  | _ => none
def eqSl (x y : AV) : Option Bool :=
  match x with
  | .nilsl => (match y with | .nilsl => some true | .sl _ _ _ _ _ => some false | .esl _ => some false | _ => none)
  | .sl _ _ _ _ _ => (match y with | .nilsl => some false | _ => none)
  | .esl _ => (match y with | .nilsl => some false | _ => none)
  | _ => none
def eqMp (x y : AV) : Option Bool :=
  match x with
  | .nilmp => (match y with | .nilmp => some true | .mp _ => some false | _ => none)
  | .mp _ => (match y with | .nilmp => some false | _ => none)
  | _ => none
def eqFn (x y : AV) : Option Bool :=
  match x with
  | .nilfn => (match y with | .nilfn => some true | .fn _ _ _ => some false | _ => none)
  | .fn _ _ _ => (match y with | .nilfn => some false | _ => none)
  | _ => none
def eqPlain (x y : AV) : Option Bool :=
  match x with
  | .bool a => (match y with | .bool b => some (a == b) | _ => none)
  | .int k a => (match y with | .int j b => (match ikEq k j with | true => some (ieq a b) | false => none) | _ => none)
  | .str a => (match y with | .str b => some (strEq a b) | _ => none)
  | _ => none
def eqv1 (c : Ctx) (ih : TypeId → AV → AV → Option Bool) (t : TypeId) (x y : AV) : Option Bool :=
  match c.under t with
  | none => none
  | some d => (match d with
    | .bool => (match x with | .bool _ => eqPlain x y | _ => none)
    | .int _ => (match x with | .int _ _ => eqPlain x y | _ => none)
    | .string => (match x with | .str _ => eqPlain x y | _ => none)
    | .pointer _ => eqPtr x y
    | .slice _ => eqSl x y
    | .map _ _ => eqMp x y
    | .func _ _ _ => eqFn x y
    | .struct fs => (match c.eqs.get false t with
      | false => none
      | true => (match x with
        | .agg xs => (match y with
          | .agg ys => eqFields c ih xs ys fs.toList
          | _ => none)
        | _ => none))
    | .array m t' => (match c.eqs.get false t with
      | false => none
      | true => (match c.isAgg t' with
        | some false => (match c.size t' with
          | some s => (match Nat.beq s 1 with
            | true => (match x with
              | .agg xs => (match y with
                | .agg ys => eqCells ih t' xs ys m 0
                | _ => none)
              | _ => none)
            | false => none)
          | none => none)
        | _ => none))
    | _ => none)
/-- '==' of two values of a type; as deep as n. -/
def eqv (c : Ctx) (n : Nat) : TypeId → AV → AV → Option Bool :=
  Nat.rec (motive := fun _ => TypeId → AV → AV → Option Bool) (fun _ _ _ => none) (fun _ ih t x y => eqv1 c ih t x y) n

end Go.Ax
