/-
  AxB: the evaluator: one operation; a region; code; a call.
-/
import Derived.Test.YtaopfnhkfedemaaGreatDoorAxA
noncomputable section
namespace Go.Ax

/-- What is called: a function, or the round of a loop over a function. -/
inductive Tgt where
  | f (f : FuncId)
  | y (l : Nat)

inductive Out where
  | v (a : AV) (h : Heap)
  | go (t : Tgt) (args : List AV) (h : Heap)

/-- a package's variable -/
def glRow (h : Heap) (g : Nat) : Option Row := match h.get g with | .gl r => some r | _ => none
def oLoad (c : Ctx) (h : Heap) (t : TypeId) (a : AV) : Option AV :=
  match a with
  | .gptr g off => (match glRow h g with
    | some r => (match c.isAgg t with
      | some false => (match Nat.ble (off + 1) r.n with | true => some (r.get off) | false => none)
      | some true => (match c.size t with
        | some s => (match Nat.ble (off + s) r.n with | true => some (.agg (r.read off s)) | false => none)
        | none => none)
      | none => none)
    | none => none)
  | .ptr id off => (match h.row id with
    | some r => (match c.isAgg t with
      | some false => (match Nat.ble (off + 1) r.n with | true => some (r.get off) | false => none)
      | some true => (match c.size t with
        | some s => (match Nat.ble (off + s) r.n with | true => some (.agg (r.read off s)) | false => none)
        | none => none)
      | none => none)
    | none => none)
  | _ => none

/-- what a cell may be handed -/
def AV.one (v : AV) : Bool := match v with | .bad => false | .agg _ => false | .tup _ => false | _ => true
def ones (l : List AV) : Bool := List.rec (motive := fun _ => Bool) true (fun v _ r => match v.one with | true => r | false => false) l
/-- cells written into a row -/
def wCells (h : Heap) (id off : Nat) (l : List AV) : Option Heap :=
  match h.mine id with
  | some (r, h') => (match ones l with
    | true => (match Nat.ble (off + l.length) r.n with | true => some (h'.put id (.row (r.write off l))) | false => none)
    | false => none)
  | none => none
def oStore (c : Ctx) (h : Heap) (t : TypeId) (a v : AV) : Option Heap :=
  match a with
  | .ptr id off => (match c.size t with
    | some s => (match Nat.beq s v.cells.length with
      | true => wCells h id off v.cells
      | false => none)
    | none => none)
  | _ => none

def oNilCheck (x : AV) : Option AV :=
  match x with
  | .ptr _ _ => some x
  | .gptr _ _ => some x
  | .fn f _ _ => (match f with | .func _ => some x | .yield _ => some x | _ => none)
  | .ifc _ _ => some x
  | _ => none

/-- a part of an aggregate -/
def partA (c : Ctx) (l : List AV) (t : TypeId) (off : Nat) : Option AV :=
  match c.isAgg t with
  | some false => nth l off
  | some true => (match c.size t with | some s => some (.agg ((l.drop off).take s)) | none => none)
  | none => none
def oField (c : Ctx) (t : TypeId) (x : AV) (i : Nat) : Option AV :=
  match x with
  | .agg l => (match c.under t with
    | some d => (match d with
      | .struct fs => (match nth fs.toList i with
        | some f => partA c l f.type f.offset
        | none => none)
      | _ => none)
    | none => none)
  | _ => none
def oFieldAddr (c : Ctx) (t : TypeId) (x : AV) (i : Nat) : Option AV :=
  match x with
  | .ptr id off => (match c.under t with
    | some d => (match d with
      | .struct fs => (match nth fs.toList i with
        | some f => (match c.size f.type with
          | some s => (match Nat.beq s 0 with | true => none | false => some (.ptr id (off + f.offset)))
          | none => none)
        | none => none)
      | _ => none)
    | none => none)
  | .gptr id off => (match c.under t with
    | some d => (match d with
      | .struct fs => (match nth fs.toList i with
        | some f => (match c.size f.type with
          | some s => (match Nat.beq s 0 with | true => none | false => some (.gptr id (off + f.offset)))
          | none => none)
        | none => none)
      | _ => none)
    | none => none)
  | _ => none

/-- a number that is a place: 0 ≤ i < n -/
def inRange (i : Int) (n : Nat) : Option Nat :=
  match i with
  | .ofNat m => (match Nat.ble (m + 1) n with | true => some m | false => none)
  | .negSucc _ => none
def upTo (i : Int) (n : Nat) : Option Nat :=
  match i with
  | .ofNat m => (match Nat.ble m n with | true => some m | false => none)
  | .negSucc _ => none

def oIndexAddr (c : Ctx) (t : TypeId) (x i : AV) : Option AV :=
  match i with
  | .int _ i => (match c.under t with
    | some d => (match d with
      | .slice e => (match x with
        | .sl id off len _ z => (match inRange i len with
          | some m => (match c.size e with
            | some s => (match Nat.beq s z with | true => some (.ptr id (off + m * z)) | false => none)
            | none => none)
          | none => none)
        | _ => none)
      | .array n e => (match x with
        | .ptr id off => (match inRange i n with
          | some m => (match c.size e with | some s => some (.ptr id (off + m * s)) | none => none)
          | none => none)
        | .gptr id off => (match inRange i n with
          | some m => (match c.size e with | some s => some (.gptr id (off + m * s)) | none => none)
          | none => none)
        | _ => none)
      | _ => none)
    | none => none)
  | _ => none
def oIndex (c : Ctx) (t : TypeId) (x i : AV) : Option AV :=
  match i with
  | .int _ i => (match c.under t with
    | some d => (match d with
      | .string => (match x with
        | .str l => (match i with
          | .ofNat m => (match nth l m with | some b => some (.int .u8 (.ofNat (b % 256))) | none => none)
          | .negSucc _ => none)
        | _ => none)
      | .array n e => (match x with
        | .agg l => (match inRange i n with
          | some m => (match c.size e with | some s => partA c l e (m * s) | none => none)
          | none => none)
        | _ => none)
      | _ => none)
    | none => none)
  | _ => none

/-- an operand that may be left away: its number, or the default -/
def optInt (x : Option AV) (d : Nat) (most : Nat) : Option Nat :=
  match x with
  | none => some d
  | some v => (match v with | .int _ i => upTo i most | _ => none)

/-- 's[l:h]', 's[l:h:m]' of a slice: places, the new capacity -/
def cutSlice (id off len : Nat) (cap : Option Nat) (z : Nat) (lo hi mx : Option AV) : Option AV :=
  match mx with
  | none => (match optInt hi len len with
    | none => none
    | some h => (match optInt lo 0 h with
      | none => none
      | some l => (match cap with
        | some k => some (.sl id (match Nat.beq k l with | true => off | false => off + l * z) (h - l) (some (k - l)) z)
        | none => (match Nat.ble len l with
          | true => (match Nat.beq l 0 with
            | true => some (.sl id off (h - l) none z)
            | false => some (.esl id))
          | false => some (.sl id (off + l * z) (h - l) none z)))))
  | some m => (match m with
    | .int _ m => (match upTo m len with
      | none => none
      | some m => (match hi with
        | none => none
        | some h => (match h with
          | .int _ h => (match upTo h m with
            | none => none
            | some h => (match optInt lo 0 h with
              | none => none
              | some l => some (.sl id (match Nat.beq m l with | true => off | false => off + l * z) (h - l) (some (m - l)) z)))
          | _ => none)))
    | _ => none)

def oSlice (c : Ctx) (t : TypeId) (x : AV) (lo hi mx : Option AV) : Option AV :=
  match c.under t with
  | some d => (match d with
    | .string => (match x with
      | .str l => (match mx with
        | some _ => none
        | none => (match optInt hi l.length l.length with
          | some b => (match optInt lo 0 b with
            | some a => some (.str ((l.take b).drop a))
            | none => none)
          | none => none))
      | _ => none)
    | .slice e => (match c.size e with
      | some s => (match x with
        | .sl id off len cap z => (match Nat.beq s z with | true => cutSlice id off len cap z lo hi mx | false => none)
        | .nilsl => (match mx with
          | none => (match optInt hi 0 0 with
            | some _ => (match optInt lo 0 0 with | some _ => some .nilsl | none => none)
            | none => none)
          | some m => (match hi with
            | none => none
            | some h => (match optInt (some m) 0 0 with
              | none => none
              | some _ => (match optInt (some h) 0 0 with
                | some _ => (match optInt lo 0 0 with | some _ => some .nilsl | none => none)
                | none => none))))
        | .esl id => (match mx with
          | none => (match optInt hi 0 0 with
            | some h => (match optInt lo 0 h with | some _ => some (.esl id) | none => none)
            | none => none)
          | some _ => none)
        | _ => none)
      | none => none)
    | .array n e => (match c.size e with
      | some s => (match x with
        | .ptr id off => (match mx with
          | some _ => none
          | none => (match optInt hi n n with
            | some h => (match optInt lo 0 h with
              | some l => (match Nat.beq s 0 with
                | true => none
                | false => some (.sl id (match Nat.beq n l with | true => off | false => off + l * s) (h - l) (some (n - l)) s))
              | none => none)
            | none => none))
        | _ => none)
      | none => none)
    | _ => none)
  | none => none

/-- 's[l:h]' behind the slice's end, as far as its row is known -/
def cutFar (c : Ctx) (g : Heap) (t : TypeId) (x : AV) (lo hi mx : Option AV) : Option AV :=
  match x with
  | .sl id off _ cap z => (match cap with
    | some _ => none
    | none => (match c.under t with
      | some d => (match d with
        | .slice e => (match c.size e with
          | some s => (match Nat.beq s z with
            | false => none
            | true => (match Nat.beq z 0 with
              | true => none
              | false => (match mx with
                | some _ => none
                | none => (match hi with
                  | none => none
                  | some hv => (match optInt (some hv) 0 1000000 with
                    | none => none
                    | some b => (match optInt lo 0 b with
                      | none => none
                      | some l => (match g.row id with
                        | none => none
                        | some r => (match Nat.ble (off + b * z) r.n with
                          | false => none
                          | true => (match Nat.beq l b with
                            | true => some (.esl id)
                            | false => some (.sl id (off + l * z) (b - l) none z))))))))))
          | none => none)
        | _ => none)
      | none => none))
  | _ => none
def oSliceH (c : Ctx) (g : Heap) (t : TypeId) (x : AV) (lo hi mx : Option AV) : Option AV :=
  match oSlice c t x lo hi mx with
  | some v => some v
  | none => cutFar c g t x lo hi mx

def newRow (h : Heap) (t : TypeId) (n : Nat) (c : T (Option AV)) (pat : List AV) : Heap := h.new (.row ⟨t, n, c, pat, none⟩)

def oBox (h : Heap) (t : TypeId) (v : AV) : Option (AV × Heap) :=
  match v with
  | .agg l => some (.ptr h.nxt 0, newRow h t l.length .leaf l)
  | .bad => none
  | v => some (.ptr h.nxt 0, newRow h t 1 .leaf [v])

/-- a zero's cells -/
def Ctx.zcells (c : Ctx) (t : TypeId) : Option (List AV) :=
  match c.zero t with
  | some z => (match z with | .bad => none | z => some z.cells)
  | none => none
def oMakeSlice (c : Ctx) (h : Heap) (t : TypeId) (l k : AV) : Option (AV × Heap) :=
  match l with
  | .int _ l => (match k with
    | .int _ k => (match c.under t with
      | some d => (match d with
        | .slice e => (match upTo k 1000000 with
          | some k => (match upTo l k with
            | some l => (match c.info e with
              | some i => (match c.zcells e with
                | some z => (match Nat.beq i.size z.length with
                  | false => none
                  | true => (match Nat.beq i.size 0 with
                    | true => none
                    | false => (match Nat.ble i.bytes 1000 with
                      | false => none
                      | true => some (.sl h.nxt 0 l (some k) i.size, newRow h e (k * i.size) .leaf z))))
                | none => none)
              | none => none)
            | none => none)
          | none => none)
        | _ => none)
      | none => none)
    | _ => none)
  | _ => none

/-- parts laid over zeros -/
def fill1 (pl : Option (Nat × Nat)) (ih : List AV → Option (List AV)) (a : AV) (cs : List AV) : Option (List AV) :=
  match pl with
  | none => none
  | some (off, size) => (match a with
    | .bad => none
    | v => (match Nat.beq size v.cells.length with
      | true => (match Nat.ble (off + size) cs.length with | true => ih (cs.take off ++ v.cells ++ cs.drop (off + size)) | false => none)
      | false => none))
def fillA (place : Nat → Option (Nat × Nat)) (parts : List (Nat × AV)) : List AV → Option (List AV) :=
  List.rec (motive := fun _ => List AV → Option (List AV)) (fun cs => some cs)
    (fun p _ ih cs => fill1 (place p.1) ih p.2 cs) parts

/-- the fields' places -/
def placesA (c : Ctx) (fs : List Field) : Option (List (Nat × Nat)) :=
  List.rec (motive := fun _ => Option (List (Nat × Nat))) (some [])
    (fun f _ r => match c.size f.type with
      | some s => (match r with | some r => some ((f.offset, s) :: r) | none => none)
      | none => none) fs
def oBuild (c : Ctx) (t : TypeId) (parts : List (Nat × AV)) : Option AV :=
  match c.zero t with
  | some z => (match z with
    | .agg z => (match c.under t with
      | some d => (match d with
        | .struct fs => (match placesA c fs.toList with
          | some ps => (match fillA (nth ps) parts z with
            | some cs => some (.agg cs)
            | none => none)
          | none => none)
        | .array _ e => (match c.size e with
          | some s => (match fillA (fun i => some (i * s, s)) parts z with
            | some cs => some (.agg cs)
            | none => none)
          | none => none)
        | _ => none)
      | none => none)
    | _ => none)
  | none => none
/-- so many zeros, one behind the other -/
def reps (n : Nat) (z : List AV) : List AV := Nat.rec (motive := fun _ => List AV) [] (fun _ r => z ++ r) n
def oBuildSlice (c : Ctx) (h : Heap) (t : TypeId) (len : Nat) (parts : List (Nat × AV)) : Option (AV × Heap) :=
  match c.under t with
  | some d => (match d with
    | .slice e => (match c.size e with
      | some s => (match Nat.beq len 0 with
        | true => (match parts with
          | [] => some (.sl h.nxt 0 0 (some 0) s, newRow h e 0 .leaf [])
          | _ :: _ => none)
        | false => (match c.zcells e with
          | some z => (match Nat.beq s z.length with
            | false => none
            | true => (match Nat.beq (len * s) 0 with
              | true => none
              | false => (match Nat.ble (len * s) 1000000 with
                | false => none
                | true => (match fillA (fun i => some (i * s, s)) parts (reps len z) with
                  | some cs => some (.sl h.nxt 0 len (some len) s, newRow h e cs.length .leaf cs)
                  | none => none))))
          | none => none))
      | none => none)
    | _ => none)
  | none => none

/-- cells that are bytes -/
def byte1 (v : AV) (r : Option (List Nat)) : Option (List Nat) :=
  match v with
  | .int k n => (match k with
    | .u8 => (match r with | some r => some (n.toNat :: r) | none => none)
    | _ => none)
  | _ => none
def bytesA (l : List AV) : Option (List Nat) := List.rec (motive := fun _ => Option (List Nat)) (some []) (fun v _ r => byte1 v r) l
/-- a pointer as an unsafe one, and back: the same place -/
def convToU (c : Ctx) (h : Heap) (ds : TypeDesc) (x : AV) : Option AV :=
  match ds with
  | .pointer e => (match x with
    | .nilptr => some .nilptr
    | .ptr id off => (match h.row id with
      | some r => (match Nat.ble (off + 1) r.n with
        | true => (match c.size e with
          | some z => (match Nat.beq z 0 with | true => none | false => some (.ptr id off))
          | none => none)
        | false => none)
      | none => none)
    | _ => none)
  | _ => none
def convToP (c : Ctx) (h : Heap) (ds : TypeDesc) (u : TypeId) (x : AV) : Option AV :=
  match ds with
  | .unsafePointer => (match x with
    | .nilptr => some .nilptr
    | .ptr id off => (match h.row id with
      | some r => (match c.size u with
        | some z => (match Nat.beq z 0 with
          | true => none
          | false => (match liesAt c.P c.P.depth r.t (r.n / c.P.cellsOf r.t) off u 1 with
            | true => some (.ptr id off)
            | false => none))
        | none => none)
      | none => none)
    | _ => none)
  | _ => none
def oConvert (c : Ctx) (h : Heap) (s t : TypeId) (x : AV) : Option (AV × Heap) :=
  match c.under s with
  | none => none
  | some ds => (match c.under t with
    | none => none
    | some dt => (match dt with
      | .int k => (match x with | .int _ n => some (.int k (wr k n), h) | _ => none)
      | .unsafePointer => (match convToU c h ds x with | some v => some (v, h) | none => none)
      | .pointer u => (match convToP c h ds u x with | some v => some (v, h) | none => none)
      | .string => (match ds with
        | .string => (match x with | .str l => some (.str l, h) | _ => none)
        | .slice e => (match c.under e with
          | some de => (match de with
            | .int k => (match k with
              | .u8 => (match x with
                | .nilsl => some (.str [], h)
                | .esl _ => some (.str [], h)
                | .sl id off len _ z => (match Nat.beq z 1 with
                  | true => (match h.row id with
                    | some r => (match Nat.ble (off + len) r.n with
                      | true => (match bytesA (r.read off len) with
                        | some l => some (.str l, h)
                        | none => none)
                      | false => none)
                    | none => none)
                  | false => none)
                | _ => none)
              | _ => none)
            | _ => none)
          | none => none)
        | _ => none)
      | .slice e => (match ds with
        | .string => (match c.under e with
          | some de => (match de with
            | .int k => (match k with
              | .u8 => (match x with
                | .str l => some (.sl h.nxt 0 l.length none 1, newRow h e l.length .leaf (l.map fun b => .int .u8 (.ofNat (b % 256))))
                | _ => none)
              | _ => none)
            | _ => none)
          | none => none)
        | _ => none)
      | _ => none))

/-! ### maps -/
def keyEq (a b : AV) : Option Bool :=
  match a with
  | .int k m => (match b with | .int j n => (match ikEq k j with | true => some (ieq m n) | false => none) | _ => none)
  | .str x => (match b with | .str y => some (strEq x y) | _ => none)
  | _ => none
/-- the place of a key, and what stands there -/
def findA (k : AV) (es : List (AV × AV × Nat)) : Nat → Option (Option (Nat × AV × Nat)) :=
  List.rec (motive := fun _ => Nat → Option (Option (Nat × AV × Nat))) (fun _ => some none)
    (fun p _ ih i => match keyEq k p.1 with
      | some true => some (some (i, p.2))
      | some false => ih (i + 1)
      | none => none) es
/-- are a map's keys numbers or texts -/
def plainKey (c : Ctx) (t : TypeId) : Bool :=
  match c.under t with
  | some d => (match d with | .int _ => true | .string => true | _ => false)
  | none => false
def okKey (c : Ctx) (t : TypeId) (k : AV) : Bool :=
  match c.under t with
  | some d => (match d with
    | .int j => (match k with | .int i _ => ikEq i j | _ => false)
    | .string => (match k with | .str _ => true | _ => false)
    | _ => false)
  | none => false
/-- a map's entries searched -/
def lookFind (h : Heap) (x k : AV) : Option (Option (Nat × AV × Nat)) :=
  match x with
  | .nilmp => some none
  | .mp id => (match h.get id with | .map es _ => findA k es 0 | _ => none)
  | _ => none
def okPair (ok : Bool) (v : AV) (b : Bool) : AV := match ok with | true => .tup [v, .bool b] | false => v
def lookAns (c : Ctx) (e : TypeId) (ok : Bool) (r : Option (Nat × AV × Nat)) : Option AV :=
  match r with
  | some (_, v, _) => some (okPair ok v true)
  | none => (match c.zero e with
    | some z => some (okPair ok z false)
    | none => none)
def oLookup (c : Ctx) (h : Heap) (t : TypeId) (x k : AV) (ok : Bool) : Option AV :=
  match c.under t with
  | some d => (match d with
    | .map kt e => (match okKey c kt k with
      | false => none
      | true => (match lookFind h x k with
        | none => none
        | some r => lookAns c e ok r))
    | _ => none)
  | none => none
def oMapUpdate (c : Ctx) (h : Heap) (t : TypeId) (x k v : AV) : Option Heap :=
  match c.under t with
  | some d => (match d with
    | .map kt _ => (match okKey c kt k with
      | false => none
      | true => (match x with
        | .mp id => (match h.get id with
          | .map es clock => (match findA k es 0 with
            | some (some (i, _, b)) => some (h.put id (.map (es.set i (k, v, b)) clock))
            | some none => some (h.put id (.map (es ++ [(k, v, clock)]) (clock + 1)))
            | none => none)
          | _ => none)
        | _ => none))
    | _ => none)
  | none => none
def oMapEntry (c : Ctx) (h : Heap) (t : TypeId) (x k : AV) : Option (AV × Heap) :=
  match c.under t with
  | some d => (match d with
    | .map kt e => (match okKey c kt k with
      | false => none
      | true => (match x with
        | .mp id => (match h.get id with
          | .map es clock => (match findA k es 0 with
            | some (some (i, v, b)) => some (.tup [v, .int .i64 (.ofNat b)], h.put id (.map (es.set i (k, v, b)) clock))
            | some none => (match c.zero e with
              | some z => some (.tup [z, .int .i64 (.ofNat clock)], h.put id (.map (es ++ [(k, z, clock)]) (clock + 1)))
              | none => none)
            | none => none)
          | _ => none)
        | _ => none))
    | _ => none)
  | none => none
/-- the entry of a stamp -/
def stampA (b : Nat) (es : List (AV × AV × Nat)) : Nat → Option Nat :=
  List.rec (motive := fun _ => Nat → Option Nat) (fun _ => none) (fun p _ ih i => match Nat.beq p.2.2 b with | true => some i | false => ih (i + 1)) es
def oEntryStore (h : Heap) (x s v : AV) : Option Heap :=
  match x with
  | .mp id => (match s with
    | .int _ n => (match n with
      | .ofNat b => (match h.get id with
        | .map es clock => (match stampA b es 0 with
          | some i => (match nth es i with
            | some (k, _, b') => some (h.put id (.map (es.set i (k, v, b')) clock))
            | none => none)
          | none => none)
        | _ => none)
      | .negSucc _ => none)
    | _ => none)
  | _ => none
def oDelete (c : Ctx) (h : Heap) (t : TypeId) (x k : AV) : Option Heap :=
  match c.under t with
  | some d => (match d with
    | .map kt _ => (match okKey c kt k with
      | false => none
      | true => (match x with
        | .nilmp => some h
        | .mp id => (match h.get id with
          | .map es clock => (match findA k es 0 with
            | some (some (i, _)) => some (h.put id (.map (es.eraseIdx i) clock))
            | some none => some h
            | none => none)
          | _ => none)
        | _ => none))
    | _ => none)
  | none => none

/-! ### ranging over a text, or over a map that has at most one entry -/
def oRange (c : Ctx) (h : Heap) (t : TypeId) (x : AV) : Option (AV × Heap) :=
  match c.under t with
  | some d => (match d with
    | .map _ _ => (match x with
      | .nilmp => some (.ptr h.nxt 0, h.new (.mit none 0 [] 0))
      | .mp id => (match h.get id with
        | .map _ clock => some (.ptr h.nxt 0, h.new (.mit (some id) clock [] clock))
        | _ => none)
      | _ => none)
    | _ => none)
  | none => none
def oNext (h : Heap) (x : AV) (isStr : Bool) : Option (AV × Heap) :=
  match x with
  | .ptr id off => (match Nat.beq off 0 with
    | false => none
    | true => (match isStr with
      | true => none
      | false => (match h.get id with
        | .mit m since seen last => (match m with
          | none => some (.tup [.bool false], h)
          | some m => (match h.get m with
            | .map es clock => (match es with
              | [] => some (.tup [.bool false], h)
              | e :: rest => (match rest with
                | _ :: _ => none
                | [] => (match seen with
                  | [] => (match Nat.ble (e.2.2 + 1) since with
                    | true => some (.tup [.bool true, e.1, e.2.1], h.put id (.mit (some m) since [e.2.2] clock))
                    | false => none)
                  | s :: more => (match more with
                    | _ :: _ => none
                    | [] => (match Nat.beq s e.2.2 with
                      | false => none
                      | true => (match Nat.ble (e.2.2 + 1) last with
                        | true => some (.tup [.bool false], h)
                        | false => none))))))
            | _ => none))
        | _ => none)))
  | _ => none
def oEntry (h : Heap) (x : AV) : Option AV :=
  match x with
  | .ptr id off => (match Nat.beq off 0 with
    | false => none
    | true => (match h.get id with
      | .mit m _ seen last => (match m with
        | none => none
        | some m => (match h.get m with
          | .map es clock => (match Nat.beq clock last with
            | false => none
            | true => (match seen with
              | [s] => (match stampA s es 0 with
                | some i => (match nth es i with | some (k, v, _) => some (.tup [k, v]) | none => none)
                | none => none)
              | _ => none))
          | _ => none))
      | _ => none))
  | _ => none

/-! ### append, copy -/
/-- the cells of what is appended, or copied -/
def srcCells (h : Heap) (x : AV) (z : Nat) : Option (List AV) :=
  match x with
  | .nilsl => some []
  | .esl _ => some []
  | .str l => (match Nat.beq z 1 with | true => some (l.map fun b => .int .u8 (.ofNat (b % 256))) | false => none)
  | .sl id off len _ z' => (match Nat.beq z z' with
    | false => none
    | true => (match h.row id with
      | some r => (match Nat.ble (off + len * z) r.n with | true => some (r.read off (len * z)) | false => none)
      | none => none))
  | _ => none
def srcLen (x : AV) : Option Nat :=
  match x with
  | .nilsl => some 0
  | .esl _ => some 0
  | .str l => some l.length
  | .sl _ _ len _ _ => some len
  | _ => none

def growNew (h : Heap) (e : TypeId) (z : Nat) (n : Nat) (cs : List AV) : Option (AV × Heap) :=
  match Nat.ble n 1000000 with
  | true => some (.sl h.nxt 0 n none z, newRow h e (n * z) .leaf cs)
  | false => none

/-- the chain of a row whose tip it is -/
def tipRoot (h : Heap) (id : Nat) (r : Row) : Option Nat :=
  match r.root with
  | none => some h.nxt
  | some q => (match h.tip q with
    | some t' => (match Nat.beq t' id with | true => some q | false => none)
    | none => none)
/-- the row's tip: a new row of the same chain -/
def grownTip (h : Heap) (id : Nat) (r : Row) (q m z : Nat) (cs : List AV) : Heap :=
  ⟨h.nxt + 1, (h.blk.set .none id (.row { r with root := some q })).set .none h.nxt (.row ⟨r.t, r.n + m * z, T.put none (cs.map some) r.c r.n, r.pat, some q⟩), h.tips.set none q (some h.nxt), id :: h.nxt :: q :: h.log⟩
def tipGrow (h : Heap) (e : TypeId) (id off len z m : Nat) (cs : List AV) (r : Row) : Option (AV × Heap) :=
  match Nat.beq r.n (off + len * z) with
  | false => none
  | true => (match Nat.ble (len + m) 1000000 with
    | false => none
    | true => (match ones cs with
      | false => none
      | true => (match tipRoot h id r with
        | none => none
        | some q => (match Nat.beq off 0 with
          | true => (match Nat.beq r.t e with
            | true => some (.sl h.nxt 0 (len + m) none z, grownTip h id r q m z cs)
            | false => none)
          | false => none))))
/-- a row's first cells alone; its chain's other rows are forgotten -/
def cutRow (h : Heap) (id k : Nat) : Option (Row × Heap) :=
  match wCells h id 0 [] with
  | none => none
  | some h' => (match h'.get id with
    | .row r => (match r.root with
      | none => (match Nat.ble k r.n with
        | true => some (⟨r.t, k, r.c, r.pat, none⟩, h'.put id (.row ⟨r.t, k, r.c, r.pat, none⟩))
        | false => none)
      | some _ => none)
    | _ => none)
/-- onto a slice that is there -/
def appSl (h : Heap) (e : TypeId) (z m : Nat) (cs : List AV) (id off len : Nat) (cap : Option Nat) : Option (AV × Heap) :=
  match cap with
  | some k => (match Nat.ble (len + m) k with
    | true => (match wCells h id (off + len * z) cs with
      | some h' => some (.sl id off (len + m) (some k) z, h')
      | none => none)
    | false => (match h.row id with
      | some r => (match Nat.ble (off + len * z) r.n with
        | true => growNew h e z (len + m) (r.read off (len * z) ++ cs)
        | false => none)
      | none => none))
  | none => (match h.get id with
    | .row r => (match Nat.ble (off + (len + m) * z) r.n with
      | true => (match wCells h id (off + len * z) cs with
        | some h' => some (.sl id off (len + m) none z, h')
        | none => none)
      | false => (match Nat.beq r.n (off + len * z) with
        | true => tipGrow h e id off len z m cs r
        | false => (match cutRow h id (off + len * z) with
          | some (r', h') => tipGrow h' e id off len z m cs r'
          | none => none)))
    | _ => none)
/-- append of cells that are known -/
def appCells (h : Heap) (e : TypeId) (z m : Nat) (cs : List AV) (s : AV) : Option (AV × Heap) :=
  match s with
  | .nilsl => (match m with
    | 0 => some (.nilsl, h)
    | m + 1 => growNew h e z (m + 1) cs)
  | .sl id off len cap z' => (match Nat.beq z' z with
    | false => none
    | true => (match m with
      | 0 => some (.sl id off len cap z, h)
      | m + 1 => appSl h e z (m + 1) cs id off len cap))
  | _ => none
def oAppend (c : Ctx) (h : Heap) (t : TypeId) (s x : AV) : Option (AV × Heap) :=
  match c.under t with
  | some d => (match d with
    | .slice e => (match c.info e with
      | some i => (match c.zcells e with
        | none => none
        | some zc => (match Nat.beq i.size zc.length with
          | false => none
          | true => (match Nat.beq i.size 0 with
            | true => none
            | false => (match Nat.ble i.bytes 1000 with
              | false => none
              | true => (match srcLen x with
                | none => none
                | some m => (match srcCells h x i.size with
                  | none => none
                  | some cs => appCells h e i.size m cs s))))))
      | none => none)
    | _ => none)
  | none => none
/-- 'append(s, make([]T, n)...)' -/
def oAppendZ (c : Ctx) (h : Heap) (t : TypeId) (s x : AV) : Option (AV × Heap) :=
  match c.under t with
  | some d => (match d with
    | .slice e => (match c.info e with
      | some i => (match Nat.beq i.size 0 with
        | true => none
        | false => (match Nat.ble i.bytes 1000 with
          | false => none
          | true => (match x with
            | .int _ n => (match upTo n 1000000 with
              | none => none
              | some m => (match c.zcells e with
                | none => none
                | some z => (match Nat.beq i.size z.length with
                  | false => none
                  | true => appCells h e i.size m (reps m z) s)))
            | _ => none)))
      | none => none)
    | _ => none)
  | none => none

def dstLen (x : AV) : Option Nat :=
  match x with
  | .nilsl => some 0
  | .esl _ => some 0
  | .sl _ _ len _ _ => some len
  | _ => none
def oCopy (c : Ctx) (h : Heap) (t : TypeId) (d s : AV) : Option (AV × Heap) :=
  match c.under t with
  | some td => (match td with
    | .slice e => (match c.size e with
      | some z => (match srcLen s with
        | none => none
        | some m => (match dstLen d with
          | none => none
          | some n => (match srcCells h s z with
            | none => none
            | some cs => (match Nat.beq (min m n) 0 with
              | true => some (.int .i64 0, h)
              | false => (match d with
                | .sl id off _ _ z' => (match Nat.beq z z' with
                  | false => none
                  | true => (match wCells h id off (cs.take (min m n * z)) with
                    | some h' => some (.int .i64 (.ofNat (min m n)), h')
                    | none => none))
                | _ => none)))))
      | none => none)
    | _ => none)
  | none => none

/-- all cells of a slice are as they were at first -/
def oClear (c : Ctx) (h : Heap) (t : TypeId) (x : AV) : Option Heap :=
  match c.under t with
  | some td => (match td with
    | .slice e => (match x with
      | .nilsl => some h
      | .esl _ => some h
      | .sl id off len _ z => (match c.info e with
        | some i => (match c.zcells e with
          | none => none
          | some zc => (match Nat.beq i.size zc.length with
            | false => none
            | true => (match Nat.beq i.size z with
              | false => none
              | true => (match Nat.beq z 0 with
                | true => none
                | false => (match Nat.beq len 0 with
                  | true => some h
                  | false => wCells h id off (reps len zc))))))
        | none => none)
      | _ => none)
    | _ => none)
  | none => none

def oLen (c : Ctx) (h : Heap) (t : TypeId) (x : AV) : Option AV :=
  match x with
  | .str l => (match c.under t with | some d => (match d with | .string => some (.int .i64 (.ofNat l.length)) | _ => none) | none => none)
  | .nilsl => (match c.under t with | some d => (match d with | .slice _ => some (.int .i64 0) | _ => none) | none => none)
  | .esl _ => (match c.under t with | some d => (match d with | .slice _ => some (.int .i64 0) | _ => none) | none => none)
  | .sl _ _ len _ _ => (match c.under t with | some d => (match d with | .slice _ => some (.int .i64 (.ofNat len)) | _ => none) | none => none)
  | .nilmp => (match c.under t with | some d => (match d with | .map _ _ => some (.int .i64 0) | _ => none) | none => none)
  | .mp id => (match c.under t with | some d => (match d with | .map _ _ => (match h.get id with | .map es _ => some (.int .i64 (.ofNat es.length)) | _ => none) | _ => none) | none => none)
  | _ => none
def oCap (c : Ctx) (t : TypeId) (x : AV) : Option AV :=
  match c.under t with
  | some d => (match d with
    | .slice _ => (match x with
      | .nilsl => some (.int .i64 0)
      | .sl _ _ _ k _ => (match k with | some k => some (.int .i64 (.ofNat k)) | none => some .bad)
      | .esl _ => some .bad
      | _ => none)
    | _ => none)
  | none => none
/-- the lesser, or the greater -/
def mm1 (mx : Bool) (a b : AV) : Option AV :=
  match a with
  | .int k m => (match b with
    | .int _ n => some (.int k (match (match mx with | true => ilt m n | false => ilt n m) with | true => n | false => m))
    | _ => none)
  | _ => none
def oMinMax (mx : Bool) (l : List AV) : Option AV :=
  match l with
  | [] => none
  | x :: l => List.rec (motive := fun _ => AV → Option AV) (fun a => some a)
      (fun y _ ih a => match mm1 mx a y with | some v => ih v | none => none) l x

/-- a text out of a row's first bytes: the row is forgotten -/
def oUStr (c : Ctx) (h : Heap) (pt : TypeId) (p n : AV) : Option (AV × Heap) :=
  match n with
  | .int k m => (match k with
    | .i64 => (match upTo m 1000000 with
      | none => none
      | some m => (match Nat.beq m 0 with
        | true => (match p with | .nilptr => some (.str [], h) | .ptr _ _ => some (.str [], h) | _ => none)
        | false => (match p with
          | .ptr id off => (match Nat.beq off 0 with
            | false => none
            | true => (match c.under pt with
              | some d => (match d with
                | .pointer e => (match c.size e with
                  | some z => (match Nat.beq z 1 with
                    | false => none
                    | true => (match h.mine id with
                      | none => none
                      | some (r, h') => (match Nat.beq r.t e with
                        | false => none
                        | true => (match Nat.ble m r.n with
                          | false => none
                          | true => (match bytesA (r.read 0 m) with
                            | some l => some (.str l, h'.put id .none)
                            | none => none)))))
                  | none => none)
                | _ => none)
              | none => none))
          | _ => none)))
    | _ => none)
  | _ => none
/-- where a slice begins -/
def oSData (x : AV) : Option AV :=
  match x with
  | .nilsl => some .nilptr
  | .sl id off len _ _ => (match Nat.beq len 0 with | true => none | false => some (.ptr id off))
  | _ => none
def oBuiltin (c : Ctx) (h : Heap) (b : Builtin) (ts : Array TypeId) (l : List AV) : Option Out :=
  match b with
  | .len => (match l with | x :: _ => (match nth ts.toList 0 with | some t => (match oLen c h t x with | some v => some (.v v h) | none => none) | none => none) | [] => none)
  | .cap => (match l with | x :: _ => (match nth ts.toList 0 with | some t => (match oCap c t x with | some v => some (.v v h) | none => none) | none => none) | [] => none)
  | .append => (match l with
    | s :: r => (match r with
      | x :: _ => (match nth ts.toList 0 with
        | some t => (match nth ts.toList 1 with
          | some t1 => (match c.under t1 with
            | some d => (match d with
              | .int _ => (match oAppendZ c h t s x with | some (v, h') => some (.v v h') | none => none)
              | _ => (match oAppend c h t s x with | some (v, h') => some (.v v h') | none => none))
            | none => none)
          | none => none)
        | none => none)
      | [] => none)
    | [] => none)
  | .copy => (match l with
    | s :: r => (match r with
      | x :: _ => (match nth ts.toList 0 with
        | some t => (match oCopy c h t s x with | some (v, h') => some (.v v h') | none => none)
        | none => none)
      | [] => none)
    | [] => none)
  | .delete => (match l with
    | s :: r => (match r with
      | x :: _ => (match nth ts.toList 0 with
        | some t => (match oDelete c h t s x with | some h' => some (.v und h') | none => none)
        | none => none)
      | [] => none)
    | [] => none)
  | .clear => (match l with
    | x :: _ => (match nth ts.toList 0 with
      | some t => (match oClear c h t x with | some h' => some (.v und h') | none => none)
      | none => none)
    | [] => none)
  | .unsafeString => (match l with
    | p :: r => (match r with
      | n :: r2 => (match r2 with
        | [] => (match nth ts.toList 0 with
          | some pt => (match oUStr c h pt p n with | some (v, h') => some (.v v h') | none => none)
          | none => none)
        | _ :: _ => none)
      | [] => none)
    | [] => none)
  | .unsafeSliceData => (match l with
    | x :: r => (match r with
      | [] => (match oSData x with | some v => some (.v v h) | none => none)
      | _ :: _ => none)
    | [] => none)
  | .min => (match oMinMax false l with | some v => some (.v v h) | none => none)
  | .max => (match oMinMax true l with | some v => some (.v v h) | none => none)
  | _ => none

def oCall (c : Ctx) (e : T AV) (h : Heap) (k : Call) : Option Out :=
  match k.callee with
  | .builtin b => oBuiltin c h b k.argTypes (k.args.toList.map (ev e))
  | .value f => (match ev e f with
    | .fn g first cap => (match g with
      | .func f => some (.go (.f f) (first ++ k.args.toList.map (ev e) ++ cap) h)
      | .yield l => some (.go (.y l) (first ++ k.args.toList.map (ev e)) h)
      | _ => none)
    | _ => none)
  | .invoke _ _ => none

/-- a number against one that is not known: at least, at most n -/
def bigOp (op : BinOp) (k : IntKind) (a : Int) (n : Nat) : Option AV :=
  match op with
  | .leq => (match ikEq k .i64 with | true => (match ilt (.ofNat n) a with | false => some (.bool true) | true => none) | false => none)
  | _ => none
def lowOp (op : BinOp) (k : IntKind) (a : Int) (n : Nat) : Option AV :=
  match op with
  | .leq => (match ikEq k .i64 with | true => (match ilt (.ofNat n) a with | true => some (.bool false) | false => none) | false => none)
  | _ => none
def oBin (c : Ctx) (op : BinOp) (t : TypeId) (x y : AV) : Option AV :=
  match x with
  | .int k a => (match y with
    | .int j b => (match op with
      | .shl => shiftOp .shl k a b
      | .shr => shiftOp .shr k a b
      | op => (match ikEq k j with | true => intOp op k a b | false => none))
    | .big n => bigOp op k a n
    | .low n => lowOp op k a n
    | _ => none)
  | .str a => (match y with | .str b => strOp op a b | _ => none)
  | x => (match op with
    | .eql => (match eqv c 6 t x y with | some b => some (.bool b) | none => none)
    | .neq => (match eqv c 6 t x y with | some b => some (.bool (!b)) | none => none)
    | _ => none)
/-- is one of the two a constant -/
def constB (p q : Operand) : Bool := match p with | .const _ => true | _ => (match q with | .const _ => true | _ => false)
def oBinNil (c : Ctx) (op : BinOp) (t : TypeId) (k : Bool) (y : AV) : Option AV :=
  match y with
  | .nilifc => (match k with
    | false => none
    | true => (match c.under t with
      | some d => (match d with
        | .interface _ => (match op with | .eql => some (.bool true) | .neq => some (.bool false) | _ => none)
        | _ => none)
      | none => none))
  | y => oBin c op t .nilifc y
def oBinX (c : Ctx) (op : BinOp) (t : TypeId) (k : Bool) (x y : AV) : Option AV :=
  match x with
  | .nilifc => oBinNil c op t k y
  | x => oBin c op t x y
def oUn (op : UnOp) (x : AV) : Option AV :=
  match op with
  | .not => (match x with | .bool b => some (.bool (!b)) | _ => none)
  | .neg => (match x with | .int k n => some (.int k (wr k (0 - n))) | _ => none)
  | _ => none
def oMakeInterface (c : Ctx) (t : TypeId) (x : AV) : Option AV :=
  match c.under t with
  | some d => (match d with | .interface _ => none | _ => some (.ifc t x))
  | none => none
def oExtract (x : AV) (i : Nat) : Option AV := match x with | .tup l => nth l i | _ => none
def oMakeMap (c : Ctx) (h : Heap) (t : TypeId) (r : Option AV) : Option (AV × Heap) :=
  match r with
  | none => some (.mp h.nxt, h.new (.map [] 0))
  | some v => (match v with
    | .int _ _ => (match c.under t with | some d => (match d with | .map _ _ => some (.mp h.nxt, h.new (.map [] 0)) | _ => none) | none => none)
    | _ => none)
def oToArrayPtr (c : Ctx) (t : TypeId) (x : AV) : Option AV :=
  match c.under t with
  | some d => (match d with
    | .array n _ => (match x with
      | .sl id off len _ _ => (match Nat.ble n len with | true => some (.ptr id off) | false => none)
      | _ => none)
    | _ => none)
  | none => none
def oAlloc (c : Ctx) (h : Heap) (t : TypeId) : Option (AV × Heap) :=
  match c.zero t with
  | some z => oBox h t z
  | none => none

def val (h : Heap) (r : Option AV) : Option Out := match r with | some v => some (.v v h) | none => none
def valH (r : Option (AV × Heap)) : Option Out := match r with | some (v, h) => some (.v v h) | none => none
def unit (r : Option Heap) : Option Out := match r with | some h => some (.v und h) | none => none
def parts (e : T AV) (ps : Array (Nat × Operand)) : List (Nat × AV) := ps.toList.map fun p => (p.1, ev e p.2)
def evo (e : T AV) (x : Option Operand) : Option AV := match x with | some x => some (ev e x) | none => none

/-- ONE OPERATION. -/
def opA (c : Ctx) (e : T AV) (h : Heap) (o : Op) : Option Out :=
  match o with
  | .move x => some (.v (ev e x) h)
  | .assign x => some (.v (ev e x) h)
  | .pick b x y => (match ev e b with | .bool b => some (.v (match b with | true => ev e x | false => ev e y) h) | _ => none)
  | .alloc t => valH (oAlloc c h t)
  | .box t x => valH (oBox h t (ev e x))
  | .build t ps => val h (oBuild c t (parts e ps))
  | .buildSlice t n ps => valH (oBuildSlice c h t n (parts e ps))
  | .load t a => val h (oLoad c h t (ev e a))
  | .store t a x => unit (oStore c h t (ev e a) (ev e x))
  | .nilCheck x => val h (oNilCheck (ev e x))
  | .binOp op t x y _ => val h (oBinX c op t (constB x y) (ev e x) (ev e y))
  | .unOp op _ x => val h (oUn op (ev e x))
  | .convert s t x => valH (oConvert c h s t (ev e x))
  | .sliceToArrayPointer t x => val h (oToArrayPtr c t (ev e x))
  | .makeInterface t x => val h (oMakeInterface c t (ev e x))
  | .makeFunc f first cap => (match f with | .func f => some (.v (.fn (.func f) (first.toList.map (ev e)) (cap.toList.map (ev e))) h) | _ => none)
  | .makeMap t r => valH (oMakeMap c h t (evo e r))
  | .makeSlice t l k => valH (oMakeSlice c h t (ev e l) (ev e k))
  | .slice t x lo hi mx => val h (oSliceH c h t (ev e x) (evo e lo) (evo e hi) (evo e mx))
  | .fieldAddr t x i => val h (oFieldAddr c t (ev e x) i)
  | .field t x i => val h (oField c t (ev e x) i)
  | .indexAddr t x i => val h (oIndexAddr c t (ev e x) (ev e i))
  | .index t x i => val h (oIndex c t (ev e x) (ev e i))
  | .lookup t x k ok => val h (oLookup c h t (ev e x) (ev e k) ok)
  | .mapUpdate t m k x => unit (oMapUpdate c h t (ev e m) (ev e k) (ev e x))
  | .insert t m k x => unit (oMapUpdate c h t (ev e m) (ev e k) (ev e x))
  | .mapEntry t m k => valH (oMapEntry c h t (ev e m) (ev e k))
  | .entryStore _ m s x => unit (oEntryStore h (ev e m) (ev e s) (ev e x))
  | .range t x => valH (oRange c h t (ev e x))
  | .next x s => valH (oNext h (ev e x) s)
  | .entry x => val h (oEntry h (ev e x))
  | .extract x i => val h (oExtract (ev e x) i)
  | .call k => oCall c e h k
  | _ => none

/-! ## code -/
/-- what an activation has: slots, memory, the blocks of its loops' deferred calls -/
structure St where
  e : T AV
  h : Heap
  m : List Nat

/-- 'bad': where it stops, for whoever looks for the reason -/
inductive Res where
  | ok (x : Ex) (s : St)
  | bad (l : List String)
inductive Ans where
  | ok (v : AV) (h : Heap)
  | bad (l : List String)
inductive SR where
  | ok (e : T AV) (h : Heap)
  | bad (l : List String)

def setD (e : T AV) (d : Option Tmp) (v : AV) (sz : Nat) (h : Heap) : SR :=
  match d with
  | none => .ok e h
  | some d => (match Nat.ble (d + 1) sz with | true => .ok (e.set und d v) h | false => .bad [])

/-- is an operation wanted -/
def wantA (ops : List Oper) (e : T AV) (o : Oper) : Option Bool :=
  match o.guard with
  | none => some true
  | some (j, w) => (match nth ops j with
    | some p => (match p.dst with
      | some d => (match e.get und d with | .bool b => some (match b with | true => w | false => !w) | .tup _ => some false | _ => none)
      | none => some false)
    | none => some false)

abbrev App := Tgt → List AV → Heap → Ans
/-- what has no body -/
abbrev Ext := App → FuncId → Func → List AV → Heap → Ans

/-- one of a region's -/
def stepA (c : Ctx) (app : App) (sz : Nat) (ops : List Oper) (o : Oper) (e : T AV) (h : Heap) : SR :=
  match wantA ops e o with
  | none => .bad [o.pos]
  | some false => setD e o.dst und sz h
  | some true => (match opA c e h o.op with
    | none => .bad [o.pos]
    | some (.v a h') => setD e o.dst a sz h'
    | some (.go t args h') => (match app t args h' with
      | .ok a h'' => setD e o.dst a sz h''
      | .bad l => .bad (o.pos :: l)))
/-- a region's operations, in the order of the text -/
def runOps (c : Ctx) (app : App) (sz : Nat) (ops : List Oper) (l : List Oper) : T AV → Heap → SR :=
  List.rec (motive := fun _ => T AV → Heap → SR) (fun e h => .ok e h)
    (fun o _ ih e h => match stepA c app sz ops o e h with
      | .ok e' h' => ih e' h'
      | .bad l => .bad l) l

/-- A loop's record, laid. -/
def enterLoop (h : Heap) (fn : FuncId) (e : T AV) (sz : Nat) (params : List Tmp) (assign body : Code) (around : Option Nat) : Option (Nat × List Nat × Heap) :=
  match around with
  | none => some (h.nxt + 1, [h.nxt], (h.new (.dfr true)).new (.loop ⟨.ready, none, fn, e, sz, params, assign, body, h.nxt⟩))
  | some l => (match h.get l with
    | .loop r => some (h.nxt, [], h.new (.loop ⟨.ready, none, fn, e, sz, params, assign, body, r.defers⟩))
    | _ => none)

def hasBody (c : Ctx) (f : FuncId) : Bool := match c.fns.get none f with | some fn => (match fn.body with | some _ => true | none => false) | none => false
def callV (c : Ctx) (app : App) (v : AV) (args : List AV) (h : Heap) : Ans :=
  match v with
  | .fn g first cap => (match g with
    | .func f => (match hasBody c f with | true => app (.f f) (first ++ args ++ cap) h | false => .bad [])
    | _ => .bad [])
  | _ => .bad []

/-! ### two ways -/
def optEqN (a b : Option Nat) : Bool :=
  match a with
  | none => (match b with | none => true | some _ => false)
  | some x => (match b with | none => false | some y => Nat.beq x y)
def natsEqB (a : List Nat) : List Nat → Bool :=
  List.rec (motive := fun _ => List Nat → Bool) (fun b => match b with | [] => true | _ :: _ => false)
    (fun x _ ih b => match b with | [] => false | y :: b => (match Nat.beq x y with | true => ih b | false => false)) a
/-- the same value, for sure -/
def avEq0 (a b : AV) : Bool :=
  match a with
  | .bool x => (match b with | .bool y => (match x with | true => y | false => !y) | _ => false)
  | .int k x => (match b with | .int j y => (match ikEq k j with | true => ieq x y | false => false) | _ => false)
  | .str x => (match b with | .str y => natsEqB x y | _ => false)
  | .nilptr => (match b with | .nilptr => true | _ => false)
  | .ptr i o => (match b with | .ptr j p => (match Nat.beq i j with | true => Nat.beq o p | false => false) | _ => false)
  | .nilsl => (match b with | .nilsl => true | _ => false)
  | .sl i o l c z => (match b with
    | .sl i' o' l' c' z' => (match Nat.beq i i' with | true => (match Nat.beq o o' with | true => (match Nat.beq l l' with | true => (match Nat.beq z z' with | true => optEqN c c' | false => false) | false => false) | false => false) | false => false)
    | _ => false)
  | .esl i => (match b with | .esl j => Nat.beq i j | _ => false)
  | .nilmp => (match b with | .nilmp => true | _ => false)
  | .mp i => (match b with | .mp j => Nat.beq i j | _ => false)
  | .nilfn => (match b with | .nilfn => true | _ => false)
  | .nilifc => (match b with | .nilifc => true | _ => false)
  | .bad => (match b with | .bad => true | _ => false)
  | .gptr i o => (match b with | .gptr j p => (match Nat.beq i j with | true => Nat.beq o p | false => false) | _ => false)
  | _ => false
def avsEq (a : List AV) : List AV → Bool :=
  List.rec (motive := fun _ => List AV → Bool) (fun b => match b with | [] => true | _ :: _ => false)
    (fun x _ ih b => match b with | [] => false | y :: b => (match avEq0 x y with | true => ih b | false => false)) a
def fnEq (f g : Fn) : Bool :=
  match f with
  | .func a => (match g with | .func b => Nat.beq a b | _ => false)
  | .yield a => (match g with | .yield b => Nat.beq a b | _ => false)
  | _ => false
def avEq (a b : AV) : Bool :=
  match a with
  | .ifc t x => (match b with | .ifc u y => (match Nat.beq t u with | true => avEq0 x y | false => false) | _ => false)
  | .agg l => (match b with | .agg m => avsEq l m | _ => false)
  | .tup l => (match b with | .tup m => avsEq l m | _ => false)
  | .fn f l m => (match b with | .fn g l' m' => (match fnEq f g with | true => (match avsEq l l' with | true => avsEq m m' | false => false) | false => false) | _ => false)
  | a => avEq0 a b
/-- are so many cells of two rows the same -/
def cellsEq (r s : Row) (n : Nat) : Bool :=
  Nat.rec (motive := fun _ => Bool) true (fun i ih => match avEq (r.get i) (s.get i) with | true => ih | false => false) n
def rowEq (r s : Row) : Bool :=
  match Nat.beq r.t s.t with
  | false => false
  | true => (match Nat.beq r.n s.n with
    | false => false
    | true => cellsEq r s r.n)
def isNoneN (a : Option Nat) : Bool := match a with | none => true | some _ => false
/-- a row that stands alone in one, and is its chain's tip in the other -/
def aloneOk (x y : Option Nat) (i : Nat) : Bool := match isNoneN x with | false => false | true => (match y with | some t => Nat.beq t i | none => false)
/-- a row as both say -/
def rowJoin (a b : Heap) (i : Nat) (r s : Row) : Option AB :=
  match rowEq r s with
  | true => (match r.root with
    | none => (match s.root with
      | none => some (.row r)
      | some q => (match aloneOk (a.tip q) (b.tip q) i with | true => some (.row r) | false => none))
    | some p => (match s.root with
      | none => (match aloneOk (b.tip p) (a.tip p) i with | true => some (.row s) | false => none)
      | some q => (match Nat.beq p q with | true => some (.row r) | false => none)))
  | false => (match r.root with | none => (match s.root with | none => some .none | some _ => none) | some _ => none)
/-- what both blocks say -/
def abJoin (g k : Heap) (i : Nat) (a b : AB) : Option AB :=
  match a with
  | .none => (match b with | .none => some .none | .row s => (match s.root with | none => some .none | some _ => none) | _ => none)
  | .row r => (match b with
    | .row s => rowJoin g k i r s
    | .none => (match r.root with | none => some .none | some _ => none)
    | _ => none)
  | _ => none
def tipJoin (a b : Option Nat) : Option Nat := match optEqN a b with | true => a | false => none
/-- the blocks of a list, joined -/
def joinL (a b : Heap) (l : List Nat) : Heap → Option Heap :=
  List.rec (motive := fun _ => Heap → Option Heap) (fun h => some h)
    (fun i _ ih h => match abJoin a b i (a.get i) (b.get i) with
      | some x => ih ⟨h.nxt, h.blk.set .none i x, h.tips.set none i (tipJoin (a.tip i) (b.tip i)), i :: h.log⟩
      | none => none) l
def joinH (h a b : Heap) : Option Heap :=
  match Nat.beq a.nxt b.nxt with
  | true => joinL a b (a.log ++ b.log) ⟨a.nxt, h.blk, h.tips, h.log⟩
  | false => none
def regDsts (ops : List Oper) (r : List Nat) : List Nat := List.rec (motive := fun _ => List Nat) r (fun o _ ih => match o.dst with | some d => d :: ih | none => ih) ops
/-- the slots that a code without calls writes; none: another code -/
def calmOp (o : Op) : Bool :=
  match o with
  | .move _ => true
  | .assign _ => true
  | .alloc _ => true
  | .load .. => true
  | .store .. => true
  | .binOp .. => true
  | .unOp .. => true
  | .indexAddr .. => true
  | .fieldAddr .. => true
  | .nilCheck _ => true
  | .build .. => true
  | .field .. => true
  | .buildSlice .. => true
  | .slice .. => true
  | .call k => (match k.callee with | .builtin b => (match b with | .len => true | .append => true | _ => false) | _ => false)
  | _ => false
def calmOps (l : List Oper) : Bool := List.rec (motive := fun _ => Bool) true (fun o _ r => match calmOp o.op with | true => r | false => false) l
def joinE (a b : T AV) (l : List Nat) : T AV → T AV :=
  List.rec (motive := fun _ => T AV → T AV) (fun e => e)
    (fun d _ ih e => ih (e.set und d (match avEq (a.get und d) (b.get und d) with | true => a.get und d | false => .bad))) l
/-- the code's slots, if it is one of few operations and no calls -/
def calm (c : Code) : Option (List Nat) :=
  Code.rec (motive := fun _ => Option (List Nat))
    (some []) (fun _ ops _ => match calmOps ops.toList with | true => some (regDsts ops.toList []) | false => none)
    (fun _ _ a b => match a with | some l => (match b with | some m => some (l ++ m) | none => none) | none => none)
    (fun _ _ _ _ _ => none) (fun _ _ _ => none) (fun _ _ => none) (fun _ _ _ _ _ _ => none) (fun _ => none) (fun _ a => a) (fun _ => some []) (fun _ => none) none (fun _ => none) c
def St.unlog (s : St) : St := ⟨s.e, s.h.unlog, s.m⟩
/-- both ways are gone, and joined -/
def two (s : St) (ca cb : Option (List Nat)) (r1 r2 : Res) : Res :=
  match ca with
  | none => .bad ["ways: code"]
  | some l => (match cb with
    | none => .bad ["ways: code"]
    | some m => (match r1 with
      | .bad l => .bad l
      | .ok x s1 => (match x with
        | .normal => (match r2 with
          | .bad l => .bad l
          | .ok y s2 => (match y with
            | .normal => (match joinH s.h s1.h s2.h with
              | none => .bad ["ways: memory"]
              | some g => .ok .normal ⟨joinE s1.e s2.e (l ++ m) s.e, g, s.m⟩)
            | _ => .bad ["ways: end"]))
        | _ => .bad ["ways: end"])))

def exLoop (lim : Nat) (body : St → Res) : St → Res :=
  Nat.rec (motive := fun _ => St → Res) (fun _ => .bad [])
    (fun _ ih s => match body s with
      | .ok x s' => (match x with
        | .normal => ih s'
        | x => .ok x s')
      | .bad l => .bad l) lim

/-- how a region that draws its order is gone through -/
abbrev DrawOk := Ctx → App → Nat → List Oper → T AV → Heap → SR

def exec (c : Ctx) (draw : DrawOk) (app : App) (lim : Nat) (fn : FuncId) (sz : Nat) (rd : Option Nat) (code : Code) : St → Res :=
  Code.rec (motive := fun _ => St → Res)
    (fun s => .ok .normal s)                                                       -- skip
    (fun _ ops d s => match d with                                                 -- region
      | false => (match runOps c app sz ops.toList ops.toList s.e s.h with
        | .ok e h => .ok .normal ⟨e, h, s.m⟩
        | .bad l => .bad l)
      | true => (match draw c app sz ops.toList s.e s.h with
        | .ok e h => .ok .normal ⟨e, h, s.m⟩
        | .bad l => .bad l))
    (fun _ _ ra rb s => match ra s with                                            -- seq
      | .ok x s' => (match x with
        | .normal => rb s'
        | x => .ok x s')
      | .bad l => .bad l)
    (fun x ca cb ra rb s => match ev s.e x with                                    -- cond
      | .bool b => (match b with | true => ra s | false => rb s)
      | .anyb => two s (calm ca) (calm cb) (ra s.unlog) (rb s.unlog)
      | _ => .bad ["cond"])
    (fun id _ ra s => match ra s with                                              -- block
      | .ok x s' => (match x with
        | .exit i => (match Nat.beq i id with | true => .ok .normal s' | false => .ok (.exit i) s')
        | x => .ok x s')
      | .bad l => .bad l)
    (fun _ ra => exLoop lim ra)                                                    -- loop
    (fun f ps assign body _ _ s => match enterLoop s.h fn s.e sz ps.toList assign body rd with      -- rangeFunc
      | none => .bad ["range"]
      | some (l, m, h) => (match callV c app (ev s.e f) [.fn (.yield l) [] []] h with
        | .bad l => .bad l
        | .ok _ h' => (match h'.get l with
          | .loop r => (match r.state with
            | .busy => .bad ["busy"]
            | _ => (match r.pending with
              | none => .ok .normal ⟨s.e, h'.put l (.loop { r with state := .exhausted }), m ++ s.m⟩
              | some x => .ok x ⟨s.e, h'.put l (.loop { r with state := .exhausted }), m ++ s.m⟩))
          | _ => .bad ["loop"])))
    (fun id s => .ok (.exit id) s)                                                 -- exit
    (fun _ ra => ra)                                                               -- scope
    (fun _ s => .ok .normal s)                                                     -- label
    (fun _ _ => .bad ["goto"])                                                     -- goto
    (fun s => .ok .ret s)                                                          -- ret
    (fun _ _ => .bad ["refuse"]) code                                              -- refuse

/-- the results' values -/
def resA (c : Ctx) (h : Heap) (e : T AV) (l : List ResultVar) : Option (List AV) :=
  List.rec (motive := fun _ => Option (List AV)) (some [])
    (fun r _ ih => match (match r with | .tmp t => some (e.get und t) | .cell a t => oLoad c h t (e.get und a)) with
      | some v => (match ih with | some vs => some (v :: vs) | none => none)
      | none => none) l
def one (l : List AV) : AV := match l with | [v] => v | l => .tup l
/-- the blocks of deferred calls are taken -/
def leave (h : Heap) (m : List Nat) : Option Heap :=
  List.rec (motive := fun _ => Heap → Option Heap) (fun h => some h)
    (fun d _ ih h => match h.get d with
      | .dfr b => (match b with | true => ih (h.put d (.dfr false)) | false => none)
      | _ => none) m h

def callA (c : Ctx) (draw : DrawOk) (app : App) (lim : Nat) (ext : Ext) (f : FuncId) (args : List AV) (h : Heap) : Ans :=
  match c.fns.get none f with
  | none => .bad ["no function"]
  | some fn => (match fn.body with
    | none => (match ext app f fn args h with | .ok v h' => .ok v h' | .bad l => .bad (fn.name :: l))
    | some body => (match Nat.ble args.length fn.ntmps with
      | false => .bad [fn.name]
      | true => (match exec c draw app lim f fn.ntmps none body ⟨T.put und args (env0 und fn.ntmps) 0, h, []⟩ with
        | .bad l => .bad (fn.name :: l)
        | .ok x s => (match (match x with | .normal => true | .ret => true | _ => false) with
          | false => .bad [fn.name]
          | true => (match leave s.h s.m with
            | none => .bad [fn.name]
            | some h' => (match resA c h' s.e fn.results.toList with
              | some vs => .ok (one vs) h'
              | none => .bad [fn.name])))))) 

def setPs (e : T AV) (ps : List Tmp) (args : List AV) (sz : Nat) : Option (T AV) :=
  List.rec (motive := fun _ => List AV → T AV → Option (T AV)) (fun args e => match args with | [] => some e | _ => none)
    (fun p _ ih args e => match args with
      | [] => none
      | a :: args => (match Nat.ble (p + 1) sz with | true => ih args (e.set und p a) | false => none)) ps args e

def yieldA (c : Ctx) (draw : DrawOk) (app : App) (lim : Nat) (l : Nat) (args : List AV) (h : Heap) : Ans :=
  match h.get l with
  | .loop r => (match setPs r.e r.params args r.sz with
    | none => .bad ["yield"]
    | some e => (match exec c draw app lim r.fn r.sz (some l) r.assign ⟨e, h, []⟩ with
      | .bad l => .bad l
      | .ok x s => (match x with
        | .normal => (match s.h.get l with
          | .loop r1 => (match r1.state with
            | .ready => (match exec c draw app lim r.fn r.sz (some l) r.body ⟨s.e, s.h.put l (.loop { r1 with state := .busy }), s.m⟩ with
              | .ok x s2 => (match s2.h.get l with
                | .loop r2 => (match x with
                  | .normal => .ok (.bool true) (s2.h.put l (.loop { r2 with state := .ready, pending := none }))
                  | x => .ok (.bool false) (s2.h.put l (.loop { r2 with state := .done, pending := some x })))
                | _ => .bad ["round"])
              | .bad l => .bad l)
            | _ => .bad ["round"])
          | _ => .bad ["round"])
        | _ => .bad ["assign"])))
  | _ => .bad ["yield"]

/-- a call that is known -/
def findK (l : List (List AV × AV)) (args : List AV) : Option AV :=
  List.rec (motive := fun _ => Option AV) none (fun p _ r => match avsEq p.1 args with | true => some p.2 | false => r) l
def known (c : Ctx) (f : FuncId) (args : List AV) : Option AV :=
  match c.kn.get none f with
  | none => none
  | some l => findK l args

/-- A CALL, as deep as n. -/
def app (c : Ctx) (draw : DrawOk) (lim : Nat) (ext : Ext) (n : Nat) : App :=
  Nat.rec (motive := fun _ => App) (fun _ _ _ => .bad ["depth"])
    (fun _ ih t args h => match t with
      | .f f => (match known c f args with
        | some v => .ok v h
        | none => callA c draw ih lim ext f args h)
      | .y l => yieldA c draw ih lim l args h) n

def ofL {α : Type} (l : List α) : T (Option α) := T.put none (l.map some) (env0 none l.length) 0
def h0 : Heap := ⟨0, .tab4 .none, .leaf, []⟩
def Ans.isTrue (r : Ans) : Bool := match r with | .ok v _ => (match v with | .bool b => b | _ => false) | .bad _ => false

end Go.Ax
