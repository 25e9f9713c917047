/-
  AxX: a region that draws its order: an order of its own, in which no call comes later than it must not; and what has to hold so that whatever order is drawn comes to the same.
-/
import Derived.Test.YtaopfnhkfedemaaGreatDoorAxW
set_option linter.unusedVariables false
set_option linter.unusedSimpArgs false
noncomputable section
namespace Go.Ax

/-- 'pure': the slots alone say the value; 'light': memory is read; 'alloc': one new block; 'work': all else -/
inductive Cls where
  | pure | light | alloc | work

def cls (c : Ctx) (o : Op) : Cls :=
  match o with
  | .move _ => .pure
  | .assign _ => .pure
  | .pick .. => .pure
  | .build .. => .pure
  | .nilCheck _ => .pure
  | .binOp .. => .pure
  | .unOp .. => .pure
  | .sliceToArrayPointer .. => .pure
  | .makeInterface .. => .pure
  | .slice .. => .light
  | .fieldAddr .. => .pure
  | .field .. => .pure
  | .indexAddr .. => .pure
  | .index .. => .pure
  | .extract .. => .pure
  | .makeFunc .. => .pure
  | .load .. => .light
  | .lookup .. => .light
  | .entry _ => .light
  | .alloc _ => .alloc
  | .box .. => .alloc
  | .buildSlice .. => .alloc
  | .makeSlice .. => .alloc
  | .makeMap .. => .alloc
  | .convert _ t _ => (match c.under t with | some d => (match d with | .slice _ => .alloc | _ => .light) | none => .light)
  | .call k => (match k.callee with | .builtin b => (match b with | .len => .light | .cap => .pure | .min => .pure | .max => .pure | _ => .work) | _ => .work)
  | _ => .work

/-! ### masks of numbers -/
def bitB (m i : Nat) : Bool := Nat.beq (Nat.mod (Nat.shiftRight m i) 2) 1
theorem bitB_eq (m i : Nat) : bitB m i = m.testBit i := by
  unfold bitB
  rw [Nat.testBit_eq_decide_div_mod_eq, show Nat.shiftRight m i = m / 2 ^ i from Nat.shiftRight_eq_div_pow m i, show Nat.mod (m / 2 ^ i) 2 = m / 2 ^ i % 2 from rfl]
  by_cases h : m / 2 ^ i % 2 = 1
  · rw [h]; rfl
  · have : m / 2 ^ i % 2 = 0 := by omega
    rw [this]; rfl
def orB (a b : Nat) : Nat := Nat.lor a b
def bit1 (i : Nat) : Nat := Nat.shiftLeft 1 i
/-- all of a are in b -/
def inB (a b : Nat) : Bool := Nat.beq (Nat.land a b) a
theorem bit_or (a b i : Nat) : bitB (orB a b) i = (bitB a i || bitB b i) := by
  simp only [bitB_eq]; exact Nat.testBit_or a b i
theorem bit_one (k i : Nat) : bitB (bit1 k) i = decide (i = k) := by
  rw [bitB_eq]
  have : bit1 k = 2 ^ k := by unfold bit1; rw [show Nat.shiftLeft 1 k = 1 <<< k from rfl, Nat.one_shiftLeft]
  rw [this, Nat.testBit_two_pow]
  by_cases h : k = i <;> simp [h, eq_comm]
theorem bit_zero (i : Nat) : bitB 0 i = false := by rw [bitB_eq]; simp
theorem inB_spec {a b : Nat} (h : inB a b = true) {i : Nat} (hi : bitB a i = true) : bitB b i = true := by
  have h1 : Nat.land a b = a := beqT h
  rw [bitB_eq] at *
  have h2 : (a &&& b).testBit i = true := by rw [show a &&& b = Nat.land a b from rfl, h1]; exact hi
  rw [Nat.testBit_and] at h2
  simp at h2; exact h2.2

def edgeB (e : Edge) : Bool := match e.ground with | .textOnly _ => false | .gcOnly _ => false | _ => true
theorem edgeB_eq (e : Edge) : edgeB e = Region.binds .any e := by unfold edgeB Region.binds; cases e.ground <;> rfl
def nat0 (x : Option Nat) : Nat := match x with | some x => x | none => 0
/-- the numbers of those that must have gone ahead -/
def maskOf (ms : List Nat) (es : List Edge) : Nat :=
  List.rec (motive := fun _ => Nat) 0 (fun e _ r => match edgeB e with | true => orB (orB (bit1 e.on) (nat0 (nth ms e.on))) r | false => r) es
def masks (ops : List Oper) : List Nat → List Nat :=
  List.rec (motive := fun _ => List Nat → List Nat) (fun ms => ms) (fun o _ ih ms => ih (ms ++ [maskOf ms o.after.toList])) ops
/-- who writes a slot -/
def writers (ops : List Oper) : T (Option Nat) → Nat → T (Option Nat) :=
  List.rec (motive := fun _ => T (Option Nat) → Nat → T (Option Nat)) (fun t _ => t)
    (fun o _ ih t i => ih (match o.dst with | some d => t.set none d (some i) | none => t) (i + 1)) ops

structure PStep where
  i : Nat
  o : Oper
  cl : Cls
  pm : Nat

def isWork (x : Cls) : Bool := match x with | .work => true | _ => false
/-- those of a mask that are not done, from number i on -/
def takeM (pm : Nat) (l : List Oper) : Nat → Nat → List Nat × Nat :=
  List.rec (motive := fun _ => Nat → Nat → List Nat × Nat) (fun _ done => ([], done))
    (fun _ _ ih i done => match bitB pm i with
      | false => ih (i + 1) done
      | true => (match bitB done i with
        | true => ih (i + 1) done
        | false => (match ih (i + 1) (orB done (bit1 i)) with | (r, d) => (i :: r, d)))) l
/-- the order -/
def ordA (c : Ctx) (ops : List Oper) (ms : List Nat) (all : Nat) (l : List Oper) : Nat → Nat → List Nat :=
  List.rec (motive := fun _ => Nat → Nat → List Nat) (fun _ done => (takeM all ops 0 done).1)
    (fun o _ ih i done => match isWork (cls c o.op) with
      | false => ih (i + 1) done
      | true => (match takeM (orB (nat0 (nth ms i)) (bit1 i)) ops 0 done with | (r, d) => r ++ ih (i + 1) d)) l
def stepsOf (c : Ctx) (ops : List Oper) (ms : List Nat) (l : List Nat) : Option (List PStep) :=
  List.rec (motive := fun _ => Option (List PStep)) (some [])
    (fun i _ r => match nth ops i with
      | some o => (match nth ms i with
        | some pm => (match r with | some r => some (⟨i, o, cls c o.op, pm⟩ :: r) | none => none)
        | none => none)
      | none => none) l

/-- a slot that is looked at -/
def lookOk (ms : List Nat) (wr : T (Option Nat)) (s : PStep) (done t : Nat) : Bool :=
  match wr.get none t with
  | none => true
  | some j => (match Nat.beq j s.i with
    | true => true
    | false => (match bitB done j with
      | true => bitB s.pm j
      | false => bitB (nat0 (nth ms j)) s.i))
def looksOk (ms : List Nat) (wr : T (Option Nat)) (s : PStep) (done : Nat) (l : List Tmp) : Bool :=
  List.rec (motive := fun _ => Bool) true (fun t _ r => match lookOk ms wr s done t with | true => r | false => false) l
def tmpsOf (l : List Operand) : List Tmp :=
  List.rec (motive := fun _ => List Tmp) [] (fun x _ r => match x with | .tmp t => t :: r | _ => r) l
def guardSlot (ops : List Oper) (o : Oper) : List Tmp :=
  match o.guard with
  | none => []
  | some (j, _) => (match nth ops j with
    | some p => (match p.dst with | some d => [d] | none => [])
    | none => [])
def stepOk (ops : List Oper) (ms : List Nat) (wr : T (Option Nat)) (s : PStep) (done : Nat) : Bool :=
  match bitB done s.i with
  | true => false
  | false => (match inB s.pm done with
    | false => false
    | true => (match (match isWork s.cl with | true => inB done s.pm | false => true) with
      | false => false
      | true => (match (match s.o.dst with | some d => (match wr.get none d with | some j => Nat.beq j s.i | none => false) | none => true) with
        | false => false
        | true => (match looksOk ms wr s done (tmpsOf s.o.op.operands.toList) with
          | false => false
          | true => looksOk ms wr s done (guardSlot ops s.o)))))
def planOk (ops : List Oper) (ms : List Nat) (wr : T (Option Nat)) (all : Nat) (l : List PStep) : Nat → Bool :=
  List.rec (motive := fun _ => Nat → Bool) (fun done => Nat.beq done all)
    (fun s _ ih done => match stepOk ops ms wr s done with | true => ih (orB done (bit1 s.i)) | false => false) l
/-- THE PLAN of a region: whatever is drawn, it comes to the same as this. -/
def plan (c : Ctx) (ops : List Oper) : Option (List PStep) :=
  match stepsOf c ops (masks ops []) (ordA c ops (masks ops []) (Nat.pred (bit1 ops.length)) ops 0 0) with
  | none => none
  | some l => (match planOk ops (masks ops []) (writers ops .leaf 0) (Nat.pred (bit1 ops.length)) l 0 with
    | true => some l
    | false => none)

/-! ### the plan is run -/
def agree (p : Option AV) (v : AV) : Bool := match p with | none => true | some u => avEq u v
/-- memory is read wherever it may be read -/
def lightV (c : Ctx) (e : T AV) (s : PStep) (bs : List (Heap × Nat)) : Option AV → Option AV :=
  List.rec (motive := fun _ => Option AV → Option AV) (fun p => p)
    (fun g _ ih p => match opA c e g.1 s.o.op with
      | some (.v v _) => (match agree p v with
        | true => (match bitB s.pm g.2 with | true => some v | false => ih (some v))
        | false => none)
      | _ => none) bs

inductive DR where
  | ok (e : T AV) (h : Heap) (bs : List (Heap × Nat))
  | bad (l : List String)
def setR (e : T AV) (d : Option Tmp) (v : AV) (sz : Nat) (h : Heap) (bs : List (Heap × Nat)) : DR :=
  match d with
  | none => .ok e h bs
  | some d => (match Nat.ble (d + 1) sz with | true => .ok (e.set und d v) h bs | false => .bad [])
def runP (c : Ctx) (app : App) (sz : Nat) (ops : List Oper) (s : PStep) (e : T AV) (h : Heap) (bs : List (Heap × Nat)) : DR :=
  match wantA ops e s.o with
  | none => .bad [s.o.pos]
  | some false => setR e s.o.dst und sz h bs
  | some true => (match s.cl with
    | .pure => (match opA c e h s.o.op with
      | some (.v v _) => setR e s.o.dst v sz h bs
      | _ => .bad [s.o.pos])
    | .light => (match lightV c e s bs none with
      | some v => setR e s.o.dst v sz h bs
      | none => .bad ["light", s.o.pos])
    | .alloc => (match opA c e h s.o.op with
      | some (.v v h') => setR e s.o.dst v sz h' bs
      | _ => .bad [s.o.pos])
    | .work => (match opA c e h s.o.op with
      | none => .bad [s.o.pos]
      | some (.v v h') => (match Nat.ble h.nxt h'.nxt with | true => setR e s.o.dst v sz h' ((h', s.i) :: bs) | false => .bad ["nxt"])
      | some (.go t args h') => (match app t args h' with
        | .ok v h'' => (match Nat.ble h.nxt h''.nxt with | true => setR e s.o.dst v sz h'' ((h'', s.i) :: bs) | false => .bad ["nxt"])
        | .bad l => .bad (s.o.pos :: l))))
def runPs (c : Ctx) (app : App) (sz : Nat) (ops : List Oper) (l : List PStep) : T AV → Heap → List (Heap × Nat) → SR :=
  List.rec (motive := fun _ => T AV → Heap → List (Heap × Nat) → SR) (fun e h _ => .ok e h)
    (fun s _ ih e h bs => match runP c app sz ops s e h bs with
      | .ok e' h' bs' => ih e' h' bs'
      | .bad l => .bad l) l
/-! ### a throw of a coin -/
def noApp : App := fun _ _ _ => .bad []
def allEq (n : Nat) (l : List Nat) : Bool := List.rec (motive := fun _ => Bool) true (fun x _ r => match Nat.beq x n with | true => r | false => false) l
def isBoolA (v : AV) : Bool := match v with | .bool _ => true | _ => false
def noneG (o : Oper) : Bool := match o.guard with | none => true | some _ => false
def rootOk (g : Heap) (i : Nat) : Bool := match g.get i with | .row r => isNoneN r.root | .gl _ => false | _ => true
/-- what a run of it comes to: a bit in slot y, and nothing else -/
def coinRun (h : Heap) (y : Nat) (r : SR) : Bool :=
  match r with
  | .bad _ => false
  | .ok e g => (match isBoolA (e.get und y) with
    | false => false
    | true => (match allEq h.nxt g.log with
      | false => false
      | true => (match rootOk g h.nxt with | true => Nat.beq g.nxt (h.nxt + 1) | false => false)))
def coin4 (c : Ctx) (sz : Nat) (ops : List Oper) (o0 o1 o2 o3 : Oper) (e : T AV) (h : Heap) : Option (T AV × Heap) :=
  match natsEqB (masks ops []) [0, 1, 1, 7] with
  | false => none
  | true => (match calmOps ops with
    | false => none
    | true => (match o0.dst with
      | none => none
      | some x => (match o3.dst with
        | none => none
        | some y => (match o1.dst with
          | some _ => none
          | none => (match o2.dst with
            | some _ => none
            | none => (match coinRun h y (runOps c noApp sz ops [o0, o1, o2, o3] e h.unlog) with
              | false => none
              | true => (match coinRun h y (runOps c noApp sz ops [o0, o2, o1, o3] e h.unlog) with
                | false => none
                | true => some ((e.set und x .bad).set und y .anyb, ⟨h.nxt + 1, h.blk, h.tips, h.nxt :: h.log⟩))))))))
def coinA (c : Ctx) (sz : Nat) (ops : List Oper) (e : T AV) (h : Heap) : Option (T AV × Heap) :=
  match ops with
  | [] => none
  | o0 :: r => (match r with
    | [] => none
    | o1 :: r => (match r with
      | [] => none
      | o2 :: r => (match r with
        | [] => none
        | o3 :: r => (match r with
          | [] => coin4 c sz ops o0 o1 o2 o3 e h
          | _ :: _ => none))))
def drawA : DrawOk := fun c app sz ops e h =>
  match plan c ops with
  | none => (match coinA c sz ops e h with
    | some (e', h') => .ok e' h'
    | none => .bad ["plan"])
  | some l => runPs c app sz ops l e h [(h, ops.length)]

end Go.Ax
