/-
  AxA: an evaluator of its own for the model's code: values with numbers for blocks, a heap that is a tree, memory whose capacities are left open. What it says is proved sound in the texts behind it.
-/
import Derived.WalkKit
import Derived.RangeFuncLeaves
noncomputable section
namespace Go.Ax

/-- A value, blocks by number; 'bad': any value. -/
inductive AV where
  | bad
  | bool (b : Bool)
  | int (k : IntKind) (n : Int)
  | str (l : List Nat)
  | nilptr
  | ptr (id off : Nat)
  | nilsl
  | sl (id off len : Nat) (cap : Option Nat) (z : Nat)
  | esl (id : Nat)
  | nilmp
  | mp (id : Nat)
  | nilfn
  | fn (f : Fn) (first cap : List AV)
  | nilifc
  | ifc (t : TypeId) (v : AV)
  | agg (l : List AV)
  | tup (l : List AV)
  | gptr (g off : Nat)
  | anyb
  | big (n : Nat)
  | low (n : Nat)
  | anyi

def und : AV := .tup []

/-! ## trees: small ones -/
inductive BT (α : Type) where
  | leaf
  | node (v : α) (l r : BT α)

def BT.get {α : Type} (d : α) (t : BT α) : Nat → α :=
  BT.rec (motive := fun _ => Nat → α) (fun _ => d)
    (fun v _ _ gl gr i => Bool.rec (motive := fun _ => α) (Bool.rec (motive := fun _ => α) (gl (Nat.div i 2)) (gr (Nat.sub (Nat.div i 2) 1)) (Nat.beq (Nat.mod i 2) 0)) v (Nat.beq i 0)) t
def BT.setF {α : Type} (d x : α) (f : Nat) : BT α → Nat → BT α :=
  Nat.rec (motive := fun _ => BT α → Nat → BT α) (fun t _ => t)
    (fun _ ih t => BT.rec (motive := fun _ => Nat → BT α)
      (fun i => Bool.rec (motive := fun _ => BT α) (Bool.rec (motive := fun _ => BT α) (.node d (ih .leaf (Nat.div i 2)) .leaf) (.node d .leaf (ih .leaf (Nat.sub (Nat.div i 2) 1))) (Nat.beq (Nat.mod i 2) 0)) (.node x .leaf .leaf) (Nat.beq i 0))
      (fun v l r _ _ i => Bool.rec (motive := fun _ => BT α) (Bool.rec (motive := fun _ => BT α) (.node v (ih l (Nat.div i 2)) r) (.node v l (ih r (Nat.sub (Nat.div i 2) 1))) (Nat.beq (Nat.mod i 2) 0)) (.node x l r) (Nat.beq i 0)) t) f
def BT.set {α : Type} (d : α) (t : BT α) (i : Nat) (x : α) : BT α := BT.setF d x (i + 1) t i

/-! ## tables -/
structure N8 (β : Type) where
  (a0 a1 a2 a3 a4 a5 a6 a7 : β)
/-- a digit: what stands there, and how it is turned -/
structure SW where
  sel : (β : Type) → N8 β → β
  upd : (β : Type) → (β → β) → N8 β → N8 β
def s0 : SW := ⟨fun _ n => n.a0, fun β F n => N8.rec (motive := fun _ => N8 β) (fun a0 a1 a2 a3 a4 a5 a6 a7 => ⟨F a0, a1, a2, a3, a4, a5, a6, a7⟩) n⟩
def s1 : SW := ⟨fun _ n => n.a1, fun β F n => N8.rec (motive := fun _ => N8 β) (fun a0 a1 a2 a3 a4 a5 a6 a7 => ⟨a0, F a1, a2, a3, a4, a5, a6, a7⟩) n⟩
def s2 : SW := ⟨fun _ n => n.a2, fun β F n => N8.rec (motive := fun _ => N8 β) (fun a0 a1 a2 a3 a4 a5 a6 a7 => ⟨a0, a1, F a2, a3, a4, a5, a6, a7⟩) n⟩
def s3 : SW := ⟨fun _ n => n.a3, fun β F n => N8.rec (motive := fun _ => N8 β) (fun a0 a1 a2 a3 a4 a5 a6 a7 => ⟨a0, a1, a2, F a3, a4, a5, a6, a7⟩) n⟩
def s4 : SW := ⟨fun _ n => n.a4, fun β F n => N8.rec (motive := fun _ => N8 β) (fun a0 a1 a2 a3 a4 a5 a6 a7 => ⟨a0, a1, a2, a3, F a4, a5, a6, a7⟩) n⟩
def s5 : SW := ⟨fun _ n => n.a5, fun β F n => N8.rec (motive := fun _ => N8 β) (fun a0 a1 a2 a3 a4 a5 a6 a7 => ⟨a0, a1, a2, a3, a4, F a5, a6, a7⟩) n⟩
def s6 : SW := ⟨fun _ n => n.a6, fun β F n => N8.rec (motive := fun _ => N8 β) (fun a0 a1 a2 a3 a4 a5 a6 a7 => ⟨a0, a1, a2, a3, a4, a5, F a6, a7⟩) n⟩
def s7 : SW := ⟨fun _ n => n.a7, fun β F n => N8.rec (motive := fun _ => N8 β) (fun a0 a1 a2 a3 a4 a5 a6 a7 => ⟨a0, a1, a2, a3, a4, a5, a6, F a7⟩) n⟩
def sw (k : Nat) : SW := match k with | 0 => s0 | 1 => s1 | 2 => s2 | 3 => s3 | 4 => s4 | 5 => s5 | 6 => s6 | _ => s7
def N8.rep {β : Type} (x : β) : N8 β := ⟨x, x, x, x, x, x, x, x⟩
/-- A tree: a small one; a table of 64, of 4096, and a small one behind it. -/
inductive T (α : Type) where
  | bin (b : BT α)
  | t2 (n : N8 (N8 α)) (o : BT α)
  | t4 (n : N8 (N8 (N8 (N8 α)))) (o : BT α)
structure G2 (α : Type) where
  get : N8 (N8 α) → BT α → α
  set : α → N8 (N8 α) → BT α → T α
structure G4 (α : Type) where
  get : N8 (N8 (N8 (N8 α))) → BT α → α
  set : α → N8 (N8 (N8 (N8 α))) → BT α → T α
def g2 (α : Type) (d : α) (i : Nat) : G2 α :=
  Bool.rec (motive := fun _ => G2 α)
    ⟨fun n _ => (sw (Nat.mod i 8)).sel α ((sw (Nat.div i 8)).sel (N8 α) n),
     fun x n o => .t2 ((sw (Nat.div i 8)).upd (N8 α) ((sw (Nat.mod i 8)).upd α (fun _ => x)) n) o⟩
    ⟨fun _ o => BT.get d o i, fun x n o => .t2 n (BT.set d o i x)⟩ (Nat.ble 64 i)
def g4 (α : Type) (d : α) (i : Nat) : G4 α :=
  Bool.rec (motive := fun _ => G4 α)
    ⟨fun n _ => (sw (Nat.mod i 8)).sel α ((sw (Nat.mod (Nat.div i 8) 8)).sel (N8 α) ((sw (Nat.mod (Nat.div i 64) 8)).sel (N8 (N8 α)) ((sw (Nat.div i 512)).sel (N8 (N8 (N8 α))) n))),
     fun x n o => .t4 ((sw (Nat.div i 512)).upd (N8 (N8 (N8 α))) ((sw (Nat.mod (Nat.div i 64) 8)).upd (N8 (N8 α)) ((sw (Nat.mod (Nat.div i 8) 8)).upd (N8 α) ((sw (Nat.mod i 8)).upd α (fun _ => x)))) n) o⟩
    ⟨fun _ o => BT.get d o i, fun x n o => .t4 n (BT.set d o i x)⟩ (Nat.ble 4096 i)
def tgB {α : Type} (b : BT α) (d : α) (i : Nat) : α := BT.get d b i
def tg2 {α : Type} (n : N8 (N8 α)) (o : BT α) (d : α) (i : Nat) : α := (g2 α d i).get n o
def tg4 {α : Type} (n : N8 (N8 (N8 (N8 α)))) (o : BT α) (d : α) (i : Nat) : α := (g4 α d i).get n o
def tsB {α : Type} (b : BT α) (d : α) (i : Nat) (x : α) : T α := .bin (BT.set d b i x)
def ts2 {α : Type} (n : N8 (N8 α)) (o : BT α) (d : α) (i : Nat) (x : α) : T α := (g2 α d i).set x n o
def ts4 {α : Type} (n : N8 (N8 (N8 (N8 α)))) (o : BT α) (d : α) (i : Nat) (x : α) : T α := (g4 α d i).set x n o
def T.get {α : Type} (d : α) (t : T α) (i : Nat) : α := T.rec (motive := fun _ => α → Nat → α) tgB tg2 tg4 t d i
def T.set {α : Type} (d : α) (t : T α) (i : Nat) (x : α) : T α := T.rec (motive := fun _ => α → Nat → α → T α) tsB ts2 ts4 t d i x
def T.leaf {α : Type} : T α := .bin .leaf
def T.tab2 {α : Type} (d : α) : T α := .t2 (.rep (.rep d)) .leaf
def T.tab4 {α : Type} (d : α) : T α := .t4 (.rep (.rep (.rep (.rep d)))) .leaf
/-- the slots of a function that has so many -/
def env0 {α : Type} (d : α) (n : Nat) : T α := Bool.rec (motive := fun _ => T α) (T.tab4 d) (T.tab2 d) (Nat.ble n 64)
/-- a list laid from place i on -/
def T.put {α : Type} (d : α) (l : List α) : T α → Nat → T α :=
  List.rec (motive := fun _ => T α → Nat → T α) (fun t _ => t) (fun x _ ih t i => ih (t.set d i x) (i + 1)) l
def nth1 {α : Type} (l : List α) : Nat → Option α :=
  List.rec (motive := fun _ => Nat → Option α) (fun _ => none) (fun x _ ih i => Bool.rec (motive := fun _ => Option α) (ih (Nat.sub i 1)) (some x) (Nat.beq i 0)) l
def tl {α : Type} (l : List α) : List α := List.rec (motive := fun _ => List α) [] (fun _ t _ => t) l
def tl8 {α : Type} (l : List α) : List α := tl (tl (tl (tl (tl (tl (tl (tl l)))))))
/-- without the first 8k -/
def drops {α : Type} (l : List α) (k : Nat) : List α := Nat.rec (motive := fun _ => List α) l (fun _ r => tl8 r) k
def nth {α : Type} (l : List α) (i : Nat) : Option α := nth1 (drops l (Nat.div i 8)) (Nat.mod i 8)

/-! ## memory -/
/-- A row of cells: those that were written since, else the pattern's; 'root': the chain of rows that it may share a block with. -/
structure Row where
  t : TypeId
  n : Nat
  c : T (Option AV)
  pat : List AV
  root : Option Nat

inductive Ex where
  | normal
  | exit (id : Nat)
  | ret

structure ALoop where
  state : LoopState
  pending : Option Ex
  fn : FuncId
  e : T AV
  sz : Nat
  params : List Tmp
  assign : Code
  body : Code
  defers : Nat

inductive AB where
  | none
  | row (r : Row)
  | map (es : List (AV × AV × Nat)) (clock : Nat)
  | loop (l : ALoop)
  | dfr (live : Bool)
  | sit (l : List Nat) (pos : Nat)
  | mit (m : Option Nat) (since : Nat) (seen : List Nat) (last : Nat)
  | gl (r : Row)

/-- 'log': the blocks, and the chains, that were written -/
structure Heap where
  nxt : Nat
  blk : T AB
  tips : T (Option Nat)
  log : List Nat

def Heap.get (h : Heap) (id : Nat) : AB := h.blk.get .none id
def Heap.put (h : Heap) (id : Nat) (b : AB) : Heap := ⟨h.nxt, h.blk.set .none id b, h.tips, id :: h.log⟩
def Heap.new (h : Heap) (b : AB) : Heap := ⟨h.nxt + 1, h.blk.set .none h.nxt b, h.tips, h.nxt :: h.log⟩
def Heap.unlog (h : Heap) : Heap := ⟨h.nxt, h.blk, h.tips, []⟩
def Heap.tip (h : Heap) (r : Nat) : Option Nat := h.tips.get none r

/-- A row that may be read. -/
def Heap.row (h : Heap) (id : Nat) : Option Row :=
  match h.get id with
  | .row r => (match r.root with
    | none => some r
    | some q => (match h.tip q with | some _ => some r | none => none))
  | _ => none

def Row.get (r : Row) (i : Nat) : AV :=
  match r.c.get none i with
  | some v => v
  | none => (match nth r.pat (i % r.pat.length) with | some v => v | none => .bad)
def Row.readS (r : Row) (off n : Nat) : List AV :=
  Nat.rec (motive := fun _ => Nat → List AV) (fun _ => []) (fun _ ih i => r.get i :: ih (i + 1)) n off
def isLeaf (t : T (Option AV)) : Bool := match t with | .bin b => (match b with | .leaf => true | _ => false) | _ => false
/-- so many of a row's cells: of one that is as it was laid, cell for cell: its own list's -/
def Row.read (r : Row) (off n : Nat) : List AV :=
  match isLeaf r.c with
  | true => (match Nat.ble (off + n) r.pat.length with
    | true => (match Nat.beq off 0 with
      | true => (match Nat.beq n r.pat.length with | true => r.pat | false => r.pat.take n)
      | false => ((drops r.pat (Nat.div off 8)).drop (Nat.mod off 8)).take n)
    | false => r.readS off n)
  | false => r.readS off n
/-- a list laid over another one's head -/
def lay (l : List AV) : List AV → List AV := List.rec (motive := fun _ => List AV → List AV) (fun p => p) (fun x _ ih p => x :: ih (tl p)) l
/-- from place off on -/
def ovl (off : Nat) (l : List AV) : List AV → List AV :=
  Nat.rec (motive := fun _ => List AV → List AV) (lay l) (fun _ ih p => List.rec (motive := fun _ => List AV) [] (fun x t _ => x :: ih t) p) off
/-- is a row its own list, a short one -/
def flat (c : T (Option AV)) (n : Nat) (pat : List AV) : Bool := match isLeaf c with | true => (match Nat.beq n pat.length with | true => Nat.ble n 64 | false => false) | false => false
def putC (off : Nat) (l : List AV) (c : T (Option AV)) : T (Option AV) :=
  List.rec (motive := fun _ => T (Option AV) → Nat → T (Option AV)) (fun t _ => t) (fun x _ ih t i => ih (t.set none i (some x)) (i + 1)) l c off
def Row.write (r : Row) (off : Nat) (l : List AV) : Row :=
  match r with
  | ⟨t, n, c, pat, root⟩ => (match flat c n pat with
    | true => (match Nat.ble (off + l.length) n with | true => ⟨t, n, c, ovl off l pat, root⟩ | false => ⟨t, n, putC off l c, pat, root⟩)
    | false => ⟨t, n, putC off l c, pat, root⟩)

/-- A row to be written: its chain's other rows are forgotten. -/
def Heap.mine (h : Heap) (id : Nat) : Option (Row × Heap) :=
  match h.get id with
  | .row r => (match r.root with
    | none => some (r, h)
    | some q => (match h.tip q with
      | some t => (match Nat.beq t id with
        | true => some ({ r with root := none }, ⟨h.nxt, h.blk, h.tips.set none q none, q :: h.log⟩)
        | false => none)
      | none => none))
  | _ => none

/-! ## the program -/
/-- 'g0': the packages' variables; 'kn': calls that are known -/
structure Ctx where
  P : Program
  tys : T (Option TypeInfo)
  fns : T (Option Func)
  eqs : T Bool
  g0 : Heap
  kn : T (Option (List (List AV × AV)))

def Ctx.info (c : Ctx) (t : TypeId) : Option TypeInfo := c.tys.get none t
def Ctx.under (c : Ctx) (t : TypeId) : Option TypeDesc :=
  match c.info t with
  | some i => (match i.desc with
    | .named _ u => (match c.info u with | some j => some j.desc | none => none)
    | d => some d)
  | none => none
def Ctx.size (c : Ctx) (t : TypeId) : Option Nat := match c.info t with | some i => some i.size | none => none
/-- is it a struct or an array -/
def Ctx.isAgg (c : Ctx) (t : TypeId) : Option Bool :=
  match c.under t with
  | some d => (match d with | .struct _ => some true | .array _ _ => some true | _ => some false)
  | none => none

def ofV0 (v : Value) : AV :=
  match v with
  | .bool b => .bool b
  | .int k n => .int k n
  | .string s => .str (s.data.toList.map UInt8.toNat)
  | .pointer a => (match a with | none => .nilptr | some _ => .bad)
  | .slice a l c => (match a with | none => (match Nat.beq l 0 with | true => (match Nat.beq c 0 with | true => .nilsl | false => .bad) | false => .bad) | some _ => .bad)
  | .map r => (match r with | none => .nilmp | some _ => .bad)
  | .nilFunc => .nilfn
  | .nilIface => .nilifc
  | _ => .bad
def ofV (v : Value) : AV :=
  match v with
  | .agg cs => .agg (cs.toList.map ofV0)
  | .tuple cs => .tup (cs.toList.map ofV0)
  | .iface t v => .ifc t (ofV0 v)
  | v => ofV0 v
def Ctx.zero (c : Ctx) (t : TypeId) : Option AV :=
  match c.info t with
  | some i => (match i.zero with | some v => some (ofV v) | none => none)
  | none => none

def AV.cells (v : AV) : List AV := match v with | .agg l => l | v => [v]

def ev (e : T AV) (x : Operand) : AV :=
  match x with
  | .tmp t => e.get und t
  | .const v => ofV v
  | .global g => .gptr g 0
  | .func f => .fn (.func f) [] []

/-! ## numbers -/
def ilt (a b : Int) : Bool :=
  match a with
  | .ofNat a => (match b with | .ofNat b => Nat.ble (a + 1) b | .negSucc _ => false)
  | .negSucc a => (match b with | .ofNat _ => true | .negSucc b => Nat.ble (b + 1) a)
def ieq (a b : Int) : Bool :=
  match a with
  | .ofNat a => (match b with | .ofNat b => Nat.beq a b | .negSucc _ => false)
  | .negSucc a => (match b with | .ofNat _ => false | .negSucc b => Nat.beq a b)
def pw (k : IntKind) : Nat := match k with | .i8 | .u8 => 256 | .i16 | .u16 => 65536 | .i32 | .u32 => 4294967296 | .i64 | .u64 => 18446744073709551616
/-- an integer's rest by 2^bits -/
def um (k : IntKind) (n : Int) : Nat :=
  match n with
  | .ofNat a => a % pw k
  | .negSucc a => pw k - 1 - a % pw k
def wr (k : IntKind) (n : Int) : Int :=
  match k.signed with
  | false => .ofNat (um k n)
  | true => (match Nat.ble (pw k) (2 * um k n) with
    | false => .ofNat (um k n)
    | true => .negSucc (pw k - 1 - um k n))
def bitw : IntKind → Nat
  | .i8 | .u8 => 8
  | .i16 | .u16 => 16
  | .i32 | .u32 => 32
  | .i64 | .u64 => 64
def ikEq (a b : IntKind) : Bool :=
  match a with
  | .i8 => (match b with | .i8 => true | _ => false)
  | .i16 => (match b with | .i16 => true | _ => false)
  | .i32 => (match b with | .i32 => true | _ => false)
  | .i64 => (match b with | .i64 => true | _ => false)
  | .u8 => (match b with | .u8 => true | _ => false)
  | .u16 => (match b with | .u16 => true | _ => false)
  | .u32 => (match b with | .u32 => true | _ => false)
  | .u64 => (match b with | .u64 => true | _ => false)

def intOp (op : BinOp) (k : IntKind) (a b : Int) : Option AV :=
  match op with
  | .add => some (.int k (wr k (a + b)))
  | .sub => some (.int k (wr k (a - b)))
  | .mul => some (.int k (wr k (a * b)))
  | .quo => (match ieq b 0 with | true => none | false => some (.int k (wr k (a.tdiv b))))
  | .rem => (match ieq b 0 with | true => none | false => some (.int k (a.tmod b)))
  | .and => some (.int k (wr k (.ofNat (Nat.land (um k a) (um k b)))))
  | .or => some (.int k (wr k (.ofNat (Nat.lor (um k a) (um k b)))))
  | .xor => some (.int k (wr k (.ofNat (Nat.xor (um k a) (um k b)))))
  | .andNot => some (.int k (wr k (.ofNat (Nat.land (um k a) (pw k - 1 - um k b)))))
  | .eql => some (.bool (ieq a b))
  | .neq => some (.bool (!ieq a b))
  | .lss => some (.bool (ilt a b))
  | .leq => some (.bool (!ilt b a))
  | .gtr => some (.bool (ilt b a))
  | .geq => some (.bool (!ilt a b))
  | _ => none
def shiftOp (op : BinOp) (k : IntKind) (a b : Int) : Option AV :=
  match b with
  | .negSucc _ => none
  | .ofNat b => (match op with
    | .shl => (match a with
      | .ofNat a => some (.int k (wr k (.ofNat (Nat.shiftLeft a (min b (bitw k))))))
      | .negSucc _ => some (.int k (wr k (a * 2 ^ (min b (bitw k))))))
    | .shr => (match a with
      | .ofNat a => some (.int k (.ofNat (Nat.shiftRight a (min b (bitw k)))))
      | .negSucc _ => some (.int k (a.fdiv (2 ^ (min b (bitw k))))))
    | _ => none)

/-! ## texts -/
def strEq (a : List Nat) : List Nat → Bool :=
  List.rec (motive := fun _ => List Nat → Bool) (fun b => match b with | [] => true | _ :: _ => false)
    (fun x _ ih b => match b with | [] => false | y :: b => (match Nat.beq (x % 256) (y % 256) with | true => ih b | false => false)) a
def strLt (a : List Nat) : List Nat → Bool :=
  List.rec (motive := fun _ => List Nat → Bool) (fun b => match b with | [] => false | _ :: _ => true)
    (fun x _ ih b => match b with | [] => false | y :: b => (match Nat.beq (x % 256) (y % 256) with | true => ih b | false => Nat.ble (x % 256 + 1) (y % 256))) a
def strOp (op : BinOp) (a b : List Nat) : Option AV :=
  match op with
  | .add => (match Nat.ble (a.length + b.length) 1000000000 with | true => some (.str (a ++ b)) | false => none)
  | .eql => some (.bool (strEq a b))
  | .neq => some (.bool (!strEq a b))
  | .lss => some (.bool (strLt a b))
  | .leq => some (.bool (strLt a b || strEq a b))
  | .gtr => some (.bool (!(strLt a b || strEq a b)))
  | .geq => some (.bool (!strLt a b))
  | _ => none

/-- fields, one behind the other -/
def eqFields (c : Ctx) (ih : TypeId → AV → AV → Option Bool) (xs ys : List AV) (fs : List Field) : Option Bool :=
  List.rec (motive := fun _ => Option Bool) (some true)
    (fun f _ r => match c.isAgg f.type with
      | some false => (match nth xs f.offset with
        | some u => (match nth ys f.offset with
          | some v => (match ih f.type u v with | some true => r | some false => some false | none => none)
          | none => none)
        | none => none)
      | some true => (match c.size f.type with
        | some s => (match ih f.type (.agg ((xs.drop f.offset).take s)) (.agg ((ys.drop f.offset).take s)) with | some true => r | some false => some false | none => none)
        | none => none)
      | none => none) fs
/-- an array's cells, from place i on -/
def eqCells (ih : TypeId → AV → AV → Option Bool) (t : TypeId) (xs ys : List AV) (m : Nat) : Nat → Option Bool :=
  Nat.rec (motive := fun _ => Nat → Option Bool) (fun _ => some true)
    (fun _ r i => match nth xs i with
      | some u => (match nth ys i with
        | some v => (match ih t u v with | some true => r (i + 1) | some false => some false | none => none)
        | none => none)
      | none => none) m
def eqPtr (x y : AV) : Option Bool :=
  match x with
  | .nilptr => (match y with | .nilptr => some true | .ptr _ _ => some false | .gptr _ _ => some false | _ => none)
  | .ptr i o => (match y with
    | .nilptr => some false
    | .ptr j q => (match Nat.beq i j with | true => (match Nat.beq o q with | true => some true | false => none) | false => none)
    | _ => none)
  | .gptr _ _ => (match y with | .nilptr => some false | _ => none)
  | _ => none
def eqSl (x y : AV) : Option Bool :=
  match x with
  | .nilsl => (match y with | .nilsl => some true | .sl _ _ _ _ _ => some false | .esl _ => some false | _ => none)
  | .sl _ _ _ _ _ => (match y with | .nilsl => some false | _ => none)
  | .esl _ => (match y with | .nilsl => some false | _ => none)
  | _ => none
def eqMp (x y : AV) : Option Bool :=
  match x with
  | .nilmp => (match y with | .nilmp => some true | .mp _ => some false | _ => none)
  | .mp _ => (match y with | .nilmp => some false | _ => none)
  | _ => none
def eqFn (x y : AV) : Option Bool :=
  match x with
  | .nilfn => (match y with | .nilfn => some true | .fn _ _ _ => some false | _ => none)
  | .fn _ _ _ => (match y with | .nilfn => some false | _ => none)
  | _ => none
def eqIfc (c : Ctx) (ih : TypeId → AV → AV → Option Bool) (x y : AV) : Option Bool :=
  match x with
  | .nilifc => (match y with | .ifc _ _ => some false | _ => none)
  | .ifc t u => (match y with
    | .nilifc => some false
    | .ifc t' v => (match Nat.beq t t' with
      | false => some false
      | true => (match c.info t with
        | some i => (match i.comparable with | true => ih t u v | false => none)
        | none => none))
    | _ => none)
  | _ => none
def eqPlain (x y : AV) : Option Bool :=
  match x with
  | .bool a => (match y with | .bool b => some (a == b) | _ => none)
  | .int k a => (match y with | .int j b => (match ikEq k j with | true => some (ieq a b) | false => none) | _ => none)
  | .str a => (match y with | .str b => some (strEq a b) | _ => none)
  | _ => none
def eqv1 (c : Ctx) (ih : TypeId → AV → AV → Option Bool) (t : TypeId) (x y : AV) : Option Bool :=
  match c.under t with
  | none => none
  | some d => (match d with
    | .bool => (match x with | .bool _ => eqPlain x y | _ => none)
    | .int _ => (match x with | .int _ _ => eqPlain x y | _ => none)
    | .string => (match x with | .str _ => eqPlain x y | _ => none)
    | .pointer p => (match c.size p with | some _ => eqPtr x y | none => none)
    | .slice _ => eqSl x y
    | .map _ _ => eqMp x y
    | .func _ _ _ => eqFn x y
    | .interface _ => eqIfc c ih x y
    | .struct fs => (match c.eqs.get false t with
      | false => none
      | true => (match x with
        | .agg xs => (match y with
          | .agg ys => eqFields c ih xs ys fs.toList
          | _ => none)
        | _ => none))
    | .array m t' => (match c.eqs.get false t with
      | false => none
      | true => (match c.isAgg t' with
        | some false => (match c.size t' with
          | some s => (match Nat.beq s 1 with
            | true => (match x with
              | .agg xs => (match y with
                | .agg ys => eqCells ih t' xs ys m 0
                | _ => none)
              | _ => none)
            | false => none)
          | none => none)
        | _ => none))
    | _ => none)
/-- '==' of two values of a type; as deep as n. -/
def eqv (c : Ctx) (n : Nat) : TypeId → AV → AV → Option Bool :=
  Nat.rec (motive := fun _ => TypeId → AV → AV → Option Bool) (fun _ _ _ => none) (fun _ ih t x y => eqv1 c ih t x y) n

end Go.Ax
