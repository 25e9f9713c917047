/- Parts of the proof in YthaagimdjfkjpaaGreatDoorXFin: DsA, DsB, DsD, DsH, DsE, DsI, DsF, DsG, DsJ, DsJa, DeA. -/
import Derived.Test.YthaagimdjfkjpaaGreatDoorXK4
import Derived.Test.YthaagimdjfkjpaaGreatDoorChecked
set_option linter.unusedVariables false
set_option linter.unusedSimpArgs false
section
namespace Go.Px.Ds
open Go.Proofs
noncomputable def cF : Ctx := ctxG Tryz.prog h0
theorem cF_ok : CtxOk cF := ctxG_ok (by kernel_rfl)
def tbF : List (Nat × TE) := [(1, ⟨.func, 1, 8, .nilfn⟩),
 (2, ⟨.int .i64, 1, 8, .int .i64 0⟩),
 (3, ⟨.int .i64, 1, 8, .int .i64 0⟩),
 (4, ⟨.bool, 1, 1, .bool false⟩),
 (5, ⟨.int .u8, 1, 1, .int .u8 0⟩),
 (9, ⟨.str, 1, 16, .str []⟩),
 (22, ⟨.slice 38, 1, 24, .nilsl⟩),
 (24, ⟨.struct [(0, 22), (1, 2)], 2, 32, .agg [.nilsl, .int .i64 0]⟩),
 (26, ⟨.int .i64, 1, 8, .int .i64 0⟩),
 (31, ⟨.slice 55, 1, 24, .nilsl⟩),
 (33, ⟨.struct [(0, 31), (1, 2)], 2, 32, .agg [.nilsl, .int .i64 0]⟩),
 (36, ⟨.slice 65, 1, 24, .nilsl⟩),
 (38, ⟨.struct [(0, 2), (1, 36)], 2, 32, .agg [.int .i64 0, .nilsl]⟩),
 (41, ⟨.ptr 44, 1, 8, .nilptr⟩),
 (42, ⟨.slice 5, 1, 24, .nilsl⟩),
 (44, ⟨.struct [(0, 41), (1, 42)], 2, 32, .agg [.nilptr, .nilsl]⟩),
 (45, ⟨.func, 1, 8, .nilfn⟩),
 (46, ⟨.func, 1, 8, .nilfn⟩),
 (49, ⟨.ifc, 1, 16, .nilifc⟩),
 (55, ⟨.struct [(0, 2), (1, 36)], 2, 32, .agg [.int .i64 0, .nilsl]⟩),
 (58, ⟨.struct [(0, 3), (1, 2), (2, 9)], 3, 32, .agg [.int .i64 0, .int .i64 0, .str []]⟩),
 (59, ⟨.slice 61, 1, 24, .nilsl⟩),
 (61, ⟨.struct [(0, 3), (1, 58), (4, 9), (5, 59), (6, 3), (7, 3)], 8, 96, .agg [.int .i64 0, .int .i64 0, .int .i64 0, .str [], .str [], .nilsl, .int .i64 0, .int .i64 0]⟩),
 (65, ⟨.struct [(0, 2), (1, 2), (2, 58), (5, 2), (6, 4), (7, 2), (8, 2)], 9, 80, .agg [.int .i64 0, .int .i64 0, .int .i64 0, .int .i64 0, .str [], .int .i64 0, .bool false, .int .i64 0, .int .i64 0]⟩),
 (67, ⟨.func, 1, 8, .nilfn⟩),
 (72, ⟨.ptr 5, 1, 8, .nilptr⟩),
 (77, ⟨.func, 1, 8, .nilfn⟩),
 (78, ⟨.func, 1, 8, .nilfn⟩),
 (80, ⟨.ptr 82, 1, 8, .nilptr⟩),
 (82, ⟨.struct [(0, 44), (2, 3), (3, 3), (4, 4)], 5, 56, .agg [.nilptr, .nilsl, .int .i64 0, .int .i64 0, .bool false]⟩),
 (91, ⟨.func, 1, 8, .nilfn⟩),
 (96, ⟨.slice 105, 1, 24, .nilsl⟩),
 (100, ⟨.func, 1, 8, .nilfn⟩),
 (101, ⟨.func, 1, 8, .nilfn⟩),
 (102, ⟨.func, 1, 8, .nilfn⟩),
 (105, ⟨.struct [(0, 4), (1, 2), (2, 58)], 5, 48, .agg [.bool false, .int .i64 0, .int .i64 0, .int .i64 0, .str []]⟩),
 (113, ⟨.func, 1, 8, .nilfn⟩),
 (114, ⟨.arr 3 105, 15, 144, .agg [.bool false, .int .i64 0, .int .i64 0, .int .i64 0, .str [], .bool false, .int .i64 0, .int .i64 0, .int .i64 0, .str [], .bool false, .int .i64 0, .int .i64 0, .int .i64 0, .str []]⟩),
 (117, ⟨.slice 2, 1, 24, .nilsl⟩),
 (132, ⟨.slice 3, 1, 24, .nilsl⟩)]
theorem eF : Env cF tbF := ⟨cF_ok, TbP.at_ (tb := tbF) ⟨⟨by kernel_rfl, by kernel_rfl, by kernel_rfl⟩, ⟨by kernel_rfl, by kernel_rfl, by kernel_rfl⟩, ⟨by kernel_rfl, by kernel_rfl, by kernel_rfl⟩, ⟨by kernel_rfl, by kernel_rfl, by kernel_rfl⟩, ⟨by kernel_rfl, by kernel_rfl, by kernel_rfl⟩, ⟨by kernel_rfl, by kernel_rfl, by kernel_rfl⟩, ⟨by kernel_rfl, by kernel_rfl, by kernel_rfl⟩, ⟨by kernel_rfl, by kernel_rfl, by kernel_rfl⟩, ⟨by kernel_rfl, by kernel_rfl, by kernel_rfl⟩, ⟨by kernel_rfl, by kernel_rfl, by kernel_rfl⟩, ⟨by kernel_rfl, by kernel_rfl, by kernel_rfl⟩, ⟨by kernel_rfl, by kernel_rfl, by kernel_rfl⟩, ⟨by kernel_rfl, by kernel_rfl, by kernel_rfl⟩, ⟨by kernel_rfl, by kernel_rfl, by kernel_rfl⟩, ⟨by kernel_rfl, by kernel_rfl, by kernel_rfl⟩, ⟨by kernel_rfl, by kernel_rfl, by kernel_rfl⟩, ⟨by kernel_rfl, by kernel_rfl, by kernel_rfl⟩, ⟨by kernel_rfl, by kernel_rfl, by kernel_rfl⟩, ⟨by kernel_rfl, by kernel_rfl, by kernel_rfl⟩, ⟨by kernel_rfl, by kernel_rfl, by kernel_rfl⟩, ⟨by kernel_rfl, by kernel_rfl, by kernel_rfl⟩, ⟨by kernel_rfl, by kernel_rfl, by kernel_rfl⟩, ⟨by kernel_rfl, by kernel_rfl, by kernel_rfl⟩, ⟨by kernel_rfl, by kernel_rfl, by kernel_rfl⟩, ⟨by kernel_rfl, by kernel_rfl, by kernel_rfl⟩, ⟨by kernel_rfl, by kernel_rfl, by kernel_rfl⟩, ⟨by kernel_rfl, by kernel_rfl, by kernel_rfl⟩, ⟨by kernel_rfl, by kernel_rfl, by kernel_rfl⟩, ⟨by kernel_rfl, by kernel_rfl, by kernel_rfl⟩, ⟨by kernel_rfl, by kernel_rfl, by kernel_rfl⟩, ⟨by kernel_rfl, by kernel_rfl, by kernel_rfl⟩, ⟨by kernel_rfl, by kernel_rfl, by kernel_rfl⟩, ⟨by kernel_rfl, by kernel_rfl, by kernel_rfl⟩, ⟨by kernel_rfl, by kernel_rfl, by kernel_rfl⟩, ⟨by kernel_rfl, by kernel_rfl, by kernel_rfl⟩, ⟨by kernel_rfl, by kernel_rfl, by kernel_rfl⟩, ⟨by kernel_rfl, by kernel_rfl, by kernel_rfl⟩, ⟨by kernel_rfl, by kernel_rfl, by kernel_rfl⟩, ⟨by kernel_rfl, by kernel_rfl, by kernel_rfl⟩, ⟨by kernel_rfl, by kernel_rfl, by kernel_rfl⟩, trivial⟩, fun i r q => by rw [show cF.g0.get i = .none from h0_get i] at q; cases q⟩
theorem _root_.Go.Px.Go.to {X : Cx} {sz : Nat} {rd : Option Nat} {k : List It} {L M : List (Nat × AV)} {h : Heap} {m : List Nat} {Q : Post} (g : Go X sz rd k M h m Q) (hs : SubL L M) : Go X sz rd k L h m Q := Go.sub hs g
theorem lt_succ_cases {j i : Nat} (h : j < i + 1) : j < i ∨ j = i := by omega
/-! ## data -/
structure Sp where
 a : Int
 b : Int
instance : Inhabited Sp := ⟨⟨0, 0⟩⟩
structure Va where
 k : Int
 n : Int
 s : List UInt8
instance : Inhabited Va := ⟨⟨0, 0, []⟩⟩
structure Fa where
 e : Int
 a : Int
 v : Va
 l : List Sp
instance : Inhabited Fa := ⟨⟨0, 0, default, []⟩⟩
structure Da where
 e : Int
 a : Int
 v : Va
 t : Int
 add : Bool
 fr : Int
 to : Int
instance : Inhabited Da := ⟨⟨0, 0, default, 0, false, 0, 0⟩⟩
def encI (n : Int) : List AV := [.int .i64 n]
def encVa (v : Va) : List AV := [.int .i64 v.k, .int .i64 v.n, sA v.s]
def encDa (d : Da) : List AV := [.int .i64 d.e, .int .i64 d.a, .int .i64 d.v.k, .int .i64 d.v.n, sA d.v.s, .int .i64 d.t, .bool d.add, .int .i64 d.fr, .int .i64 d.to]
theorem hm : cF.P.follows .mixedOrders = true := by kernel_rfl
end Go.Px.Ds
end
section
set_option maxHeartbeats 4000000
set_option maxRecDepth 20000
namespace Go.Px.Ds
open Go.Proofs
theorem k28 (n : Int) : KOk cF 43 [.int .i64 n] (.bool (bd (0 ≤ n ∧ n < 9007199254740992))) := by
 refine KOk.of cF_ok eF.g Tryz.func43 rfl (Nat.le_of_ble_eq_true rfl) fun w F => ?_
 repeat' first | refine Go.seq ?_ | refine Go.region rfl ?_ | refine Ops.nil ?_ | refine Ops.val eF rfl rfl Zw (by first | exact Z1 | exact Z2 | exact Z3) ?_ | refine Ops.skip rfl rfl Zn ?_ | refine Ops.gP rfl rfl (fun _ => ?_) (fun _ => ?_) | refine Go.retF rfl ?_ rfl
 all_goals simp [one, ofV, ofV0, ← bd_dec, *]
theorem k47 (c : Int) : KOk cF 74 [.int .u8 c] (.bool (bd (97 ≤ c ∧ c ≤ 122))) := by
 refine KOk.of cF_ok eF.g Tryz.func74 rfl (Nat.le_of_ble_eq_true rfl) fun w F => ?_
 repeat' first | refine Go.seq ?_ | refine Go.region rfl ?_ | refine Ops.nil ?_ | refine Ops.val eF rfl rfl Zw (by first | exact Z1 | exact Z2 | exact Z3) ?_ | refine Ops.skip rfl rfl Zn ?_ | refine Ops.gP rfl rfl (fun _ => ?_) (fun _ => ?_) | refine Go.retF rfl ?_ rfl
 all_goals simp [one, ofV, ofV0, ← bd_dec, *]
theorem k48 (c : Int) : KOk cF 75 [.int .u8 c] (.bool (bd (48 ≤ c ∧ c ≤ 57))) := by
 refine KOk.of cF_ok eF.g Tryz.func75 rfl (Nat.le_of_ble_eq_true rfl) fun w F => ?_
 repeat' first | refine Go.seq ?_ | refine Go.region rfl ?_ | refine Ops.nil ?_ | refine Ops.val eF rfl rfl Zw (by first | exact Z1 | exact Z2 | exact Z3) ?_ | refine Ops.skip rfl rfl Zn ?_ | refine Ops.gP rfl rfl (fun _ => ?_) (fun _ => ?_) | refine Go.retF rfl ?_ rfl
 all_goals simp [one, ofV, ofV0, ← bd_dec, *]
theorem k43 (n : Int) : KOk cF 84 [.int .i64 n] (.bool false) := by
 refine KOk.of cF_ok eF.g Tryz.func84 rfl (Nat.le_of_ble_eq_true rfl) fun w F => ?_
 repeat' first | refine Go.seq ?_ | refine Go.region rfl ?_ | refine Ops.nil ?_ | refine Ops.val eF rfl rfl Zw (by first | exact Z1 | exact Z3) ?_ | refine Go.retF rfl ?_ rfl
 all_goals simp [one, ofV, ofV0, ← bd_dec, *]
theorem k50 (n : Int) : KOk cF 89 [.int .i64 n] (.bool false) := by
 refine KOk.of cF_ok eF.g Tryz.func89 rfl (Nat.le_of_ble_eq_true rfl) fun w F => ?_
 repeat' first | refine Go.seq ?_ | refine Go.region rfl ?_ | refine Ops.nil ?_ | refine Ops.val eF rfl rfl Zw (by first | exact Z1 | exact Z3) ?_ | refine Go.retF rfl ?_ rfl
 all_goals simp [one, ofV, ofV0, ← bd_dec, *]
def cmpI (a b : Int) : Int := if a < b then -1 else if b < a then 1 else 0
theorem k35 (a b : Int) : KOk cF 66 [.int .i64 a, .int .i64 b] (.int .i64 (cmpI a b)) := by
 refine KOk.of cF_ok eF.g Tryz.func66 rfl (Nat.le_of_ble_eq_true rfl) fun w F => ?_
 repeat' first | refine Go.seq ?_ | refine Go.region rfl ?_ | refine Ops.nil ?_ | refine Ops.val eF rfl rfl Zw (by first | exact Z1 | exact Z3) ?_ | refine Ops.call eF rfl rfl Zw rfl rfl rfl rfl (k43 _) rfl ?_ | refine Go.condF rfl ?_ | refine Go.condPt rfl (fun _ => ?_) (fun _ => ?_) | refine Go.skip ?_ | refine Go.retF rfl ?_ rfl
 all_goals simp [one, ofV, ofV0, cmpI, *]
theorem k44 (a b : Int) : KOk cF 82 [.int .i64 a, .int .i64 b] (.int .i64 (cmpI a b)) := by
 refine KOk.of cF_ok eF.g Tryz.func82 rfl (Nat.le_of_ble_eq_true rfl) fun w F => ?_
 repeat' first | refine Go.seq ?_ | refine Go.region rfl ?_ | refine Ops.nil ?_ | refine Ops.val eF rfl rfl Zw (by first | exact Z1 | exact Z3) ?_ | refine Ops.call eF rfl rfl Zw rfl rfl rfl rfl (k50 _) rfl ?_ | refine Go.condF rfl ?_ | refine Go.condPt rfl (fun _ => ?_) (fun _ => ?_) | refine Go.skip ?_ | refine Go.retF rfl ?_ rfl
 all_goals simp [one, ofV, ofV0, cmpI, *]
end Go.Px.Ds
end
section
set_option maxHeartbeats 4000000
set_option maxRecDepth 20000
namespace Go.Px.Ds
open Go.Proofs
theorem bd_eq {p q : Prop} (h : p ↔ q) : bd p = bd q := by rw [propext h]
def byt (s : List UInt8) (i : Nat) : Int := ((s.getD i 0).toNat : Int)
def WoC (c : Int) : Prop := (97 ≤ c ∧ c ≤ 122) ∨ (48 ≤ c ∧ c ≤ 57) ∨ c = 46 ∨ c = 95 ∨ c = 45 ∨ c = 47
def WordP (s : List UInt8) : Prop := 1 ≤ s.length ∧ s.length ≤ 64 ∧ (97 ≤ byt s 0 ∧ byt s 0 ≤ 122) ∧ ∀ j, j < s.length → WoC (byt s j)
theorem k39 (s : List UInt8) (hs : s.length ≤ 100000) : KOk cF 55 [sA s] (.bool (bd (WordP s))) := by
  refine KOk.of cF_ok eF.g Tryz.func55 rfl (Nat.le_of_ble_eq_true rfl) fun w F => ?_
  repeat' first | refine Go.seq ?_ | refine Go.region rfl ?_ | refine Ops.nil ?_ | refine Ops.val eF rfl rfl Zw (by first | exact Z1 | exact Z2 | exact Z3 | exact Y26 | exact Z6) ?_ | refine Ops.skip rfl rfl Zn ?_ | refine Ops.gP rfl rfl (fun _ => ?_) (fun _ => ?_) | refine Ops.call eF rfl rfl Zw rfl rfl rfl rfl (k47 _) rfl ?_ | refine Go.condT rfl ?_ | refine Go.condNt rfl (fun _ => ?_) (fun _ => ?_) | refine Go.block ?_ | refine Go.skip ?_ | refine Go.retF rfl ?_ rfl
  · rw [bd_no (fun h => by have := h.1; omega)]; rfl
  · rw [bd_no (fun h => by have := h.2.1; omega)]; rfl
  · rw [bd_no (fun h => by rename_i h1; exact h1 h.2.2.1)]; rfl
  rename_i h1 h2 h3
  refine Go.loop (fun i : Nat => [(0, sA s), (3, .int .i64 i)]) (fun _ => hS) (fun i => i ≤ s.length ∧ ∀ j, j < i → WoC (byt s j)) (fun i => s.length - i) 0 ⟨by omega, fun j hj => by omega⟩ Zt rfl (fun i hP ih => ?_)
  obtain ⟨hi, hn⟩ := hP
  repeat' first | refine Go.seq ?_ | refine Go.region rfl ?_ | refine Ops.nil ?_ | refine Ops.val eF rfl rfl Zw (by first | exact Z1 | exact Z2 | exact Z3 | exact Y14 | exact Y26 | exact Z6) ?_ | refine Ops.skip rfl rfl Zn ?_ | refine Ops.gN rfl rfl (fun _ => ?_) (fun _ => ?_) | refine Ops.call eF rfl rfl Zw rfl rfl rfl rfl (k47 _) rfl ?_ | refine Ops.call eF rfl rfl Zw rfl rfl rfl rfl (k48 _) rfl ?_ | refine Go.condF rfl ?_ | refine Go.condPt rfl (fun _ => ?_) (fun _ => ?_) | refine Go.condNt rfl (fun _ => ?_) (fun _ => ?_) | refine Go.block ?_ | refine Go.unblk ?_ | refine Go.skip ?_ | refine Go.exit rfl ?_ | refine Go.retF rfl ?_ rfl
  all_goals try simp only [Int.toNat_natCast] at *
  all_goals first
    | (refine Go.to (ih (i + 1) ⟨by omega, fun j hj => ?_⟩ (by omega)) Zt
       rcases lt_succ_cases hj with h | rfl
       · exact hn j h
       · unfold WoC byt; omega)
    | (rw [bd_no (fun h => by have := h.2.2.2 i (by omega); unfold WoC byt at this; omega)]; rfl)
    | (rw [bd_of ⟨by omega, by omega, h3, fun j hj => hn j (by omega)⟩]; rfl)
end Go.Px.Ds
end
section
set_option maxHeartbeats 4000000
set_option maxRecDepth 20000
namespace Go.Px.Ds
open Go.Proofs
def VaP (v : Va) : Prop :=
 if v.k = 1 ∨ v.k = 6 then v.s = []
 else if v.k = 2 then v.s = [] ∧ (v.n = 0 ∨ v.n = 1)
 else if v.k = 3 ∨ v.k = 4 then v.n = 0 ∧ v.s.length ≤ 1000
 else if v.k = 5 then v.s = [] ∧ 0 ≤ v.n ∧ v.n < 9007199254740992
 else if v.k = 7 then v.n = 0 ∧ WordP v.s
 else False
theorem k29 (v : Va) (hv : v.s.length ≤ 100000) : KOk cF 44 [.agg (encVa v)] (.bool (bd (VaP v))) := by
 refine KOk.of cF_ok eF.g Tryz.func44 rfl (Nat.le_of_ble_eq_true rfl) fun w F => ?_
 repeat' first | refine Go.seq ?_ | refine Go.region rfl ?_ | refine Ops.nil ?_ | refine Ops.val eF rfl rfl Zw (by first | exact Z1 | exact Z2 | exact Z3 | exact Y12 | exact Z4 | exact Z5 | exact Z6) ?_ | refine Ops.skip rfl rfl Zn ?_ | refine Ops.gP rfl rfl (fun _ => ?_) (fun _ => ?_) | refine Ops.call eF rfl rfl Zw rfl rfl rfl rfl (k39 _ hv) rfl ?_ | refine Ops.boxR eF rfl rfl Zw rfl rfl rfl rfl ?_ | refine Go.condT rfl ?_ | refine Go.condPt rfl (fun _ => ?_) (fun _ => ?_) | refine Go.block ?_ | refine Go.unblk ?_ | refine Go.skip ?_ | refine Go.retF rfl ?_ rfl
 all_goals try simp only [show (({ data := #[] } : ByteArray).data.toList : List UInt8) = [] from rfl] at *
 all_goals first
  | (refine out_t ?_; simp [VaP, *]; done)
  | (refine out_f ?_; simp [VaP, *]; done)
  | (refine out_e ?_; simp [VaP, *]; done)
  | (refine out_e ?_; simp [VaP, *]; omega)
end Go.Px.Ds
end
section
set_option maxHeartbeats 4000000
set_option maxRecDepth 20000
namespace Go.Px.Ds
open Go.Proofs
theorem k54 (s : List UInt8) (hs : s.length ≤ 100000) : KOk cF 85 [sA s] (.bool (bd (WordP s))) := by
  refine KOk.of cF_ok eF.g Tryz.func85 rfl (Nat.le_of_ble_eq_true rfl) fun w F => ?_
  repeat' first | refine Go.seq ?_ | refine Go.region rfl ?_ | refine Ops.nil ?_ | refine Ops.val eF rfl rfl Zw (by first | exact Z1 | exact Z6) ?_ | refine Ops.bytes eF rfl rfl Zw rfl rfl rfl rfl rfl rfl rfl rfl ?_ | refine Go.block ?_
  refine Go.loop (fun i : Nat => [(0, sA s), (6, dsl 1 encU s), (7, .int .i64 s.length), (8, .int .i64 i)]) (fun _ => hS) (fun i => i ≤ s.length ∧ ∀ j, j < i → WoC (byt s j) ∧ (97 ≤ byt s 0 ∧ byt s 0 ≤ 122)) (fun i => s.length - i) 0 ⟨by omega, fun j hj => by omega⟩ Zt rfl (fun i hP ih => ?_)
  obtain ⟨hi, hn⟩ := hP
  repeat' first | refine Go.seq ?_ | refine Go.region rfl ?_ | refine Ops.nil ?_ | refine Ops.val eF rfl rfl Zw (by first | exact Z1 | exact Z2 | exact Z3 | exact Y14 | exact Y24 | exact Z5 | exact Z6) ?_ | refine Ops.skip rfl rfl Zn ?_ | refine Ops.gP rfl rfl (fun _ => ?_) (fun _ => ?_) | refine Go.condT rfl ?_ | refine Go.condF rfl ?_ | refine Go.condPt rfl (fun _ => ?_) (fun _ => ?_) | refine Go.block ?_ | refine Go.unblk ?_ | refine Go.skip ?_ | refine Go.exit rfl ?_ | refine Go.retF rfl ?_ rfl
  all_goals try simp only [Int.toNat_natCast, show (default : UInt8) = 0 from rfl] at *
  all_goals first
    | (refine Go.to (ih (i + 1) ⟨by omega, fun j hj => ?_⟩ (by omega)) Zt
       rcases Nat.eq_zero_or_pos i with rfl | h0
       · have : j = 0 := by omega
         subst this
         unfold WoC byt; omega
       · refine ⟨?_, (hn 0 (by omega)).2⟩
         rcases lt_succ_cases hj with h | rfl
         · exact (hn j h).1
         · unfold WoC byt; omega)
    | (rw [bd_no (p := WordP s) (fun h => by
         have h1 := h.1
         have h2 := h.2.1
         omega)]; rfl)
    | (rw [bd_no (p := WordP s) (fun h => by
         have h1 := h.2.2.1
         have h2 := h.2.2.2 i (by omega)
         rcases Nat.eq_zero_or_pos i with rfl | h0 <;> unfold WoC byt at * <;> omega)]; rfl)
    | (rw [bd_eq (q := WordP s) ⟨fun h => ⟨by omega, by omega, (hn 0 (by omega)).2, fun j hj => (hn j (by omega)).1⟩, fun h => by have := h.2.1; omega⟩]; rfl)
end Go.Px.Ds
end
section
set_option maxHeartbeats 4000000
set_option maxRecDepth 20000
namespace Go.Px.Ds
open Go.Proofs
theorem k52 (v : Va) (hv : v.s.length ≤ 100000) : KOk cF 67 [.agg (encVa v)] (.bool (bd (VaP v))) := by
 refine KOk.of cF_ok eF.g Tryz.func67 rfl (Nat.le_of_ble_eq_true rfl) fun w F => ?_
 repeat' first | refine Go.seq ?_ | refine Go.region rfl ?_ | refine Ops.nil ?_ | refine Ops.val eF rfl rfl Zw (by first | exact Z1 | exact Z2 | exact Z3 | exact Y12 | exact Z4 | exact Z5 | exact Z6) ?_ | refine Ops.skip rfl rfl Zn ?_ | refine Ops.gP rfl rfl (fun _ => ?_) (fun _ => ?_) | refine Ops.call eF rfl rfl Zw rfl rfl rfl rfl (k54 _ hv) rfl ?_ | refine Ops.boxR eF rfl rfl Zw rfl rfl rfl rfl ?_ | refine Go.condT rfl ?_ | refine Go.condPt rfl (fun _ => ?_) (fun _ => ?_) | refine Go.block ?_ | refine Go.unblk ?_ | refine Go.skip ?_ | refine Go.exit rfl ?_ | refine Go.retF rfl ?_ rfl
 all_goals try simp only [show (({ data := #[] } : ByteArray).data.toList : List UInt8) = [] from rfl] at *
 all_goals first
  | (refine out_t ?_; simp [VaP, *]; done)
  | (refine out_f ?_; simp [VaP, *]; done)
  | (refine out_e ?_; simp [VaP, *]; done)
  | (refine out_f ?_; simp [VaP, *]; omega)
  | (refine out_e ?_; simp [VaP, *]; omega)
theorem k49 (v : Va) (hv : v.s.length ≤ 100000) : KOk cF 60 [.agg (encVa v)] (.int .i64 (bif bd (VaP v) then 0 else 10)) := by
 refine KOk.of cF_ok eF.g Tryz.func60 rfl (Nat.le_of_ble_eq_true rfl) fun w F => ?_
 repeat' first | refine Go.seq ?_ | refine Go.region rfl ?_ | refine Ops.nil ?_ | refine Ops.val eF rfl rfl Zw (by first | exact Z1 | exact Z2 | exact Z5) ?_ | refine Ops.call eF rfl rfl Zw rfl rfl rfl rfl (k52 _ hv) rfl ?_ | refine Ops.boxR eF rfl rfl Zw rfl rfl rfl rfl ?_ | refine Go.condNt rfl (fun _ => ?_) (fun _ => ?_) | refine Go.skip ?_ | refine Go.retF rfl ?_ rfl
 all_goals first | (rw [bd_of (by assumption)]; rfl) | (rw [bd_no (by assumption)]; rfl)
end Go.Px.Ds
end
section
set_option maxHeartbeats 4000000
set_option maxRecDepth 20000
namespace Go.Px.Ds
open Go.Proofs
theorem f53 : Extern.find Tryz.f96 = some Extern.BytealgCompare.compare := by kernel_rfl
theorem k53 (a b : List UInt8) : KOk cF 96 [sA a, sA b] (.int .i64 (Lib.compareBytes a b)) :=
 KOk.cmp (fn := Tryz.f96) Tryz.func96 (by kernel_rfl) (by kernel_rfl) (by kernel_rfl) f53 a b
theorem k51 (a b : List UInt8) : KOk cF 90 [sA a, sA b] (.int .i64 (Lib.compareBytes a b)) := by
 refine KOk.of cF_ok eF.g Tryz.func90 rfl (Nat.le_of_ble_eq_true rfl) fun w F => ?_
 repeat' first | refine Go.seq ?_ | refine Go.region rfl ?_ | refine Ops.nil ?_ | refine Ops.val eF rfl rfl Zw Z1 ?_ | refine Ops.call eF rfl rfl Zw rfl rfl rfl rfl (k53 _ _) rfl ?_ | refine Go.retF rfl ?_ rfl
 all_goals rfl
theorem k45 (a b : List UInt8) : KOk cF 83 [sA a, sA b] (.int .i64 (Lib.compareBytes a b)) := by
 refine KOk.of cF_ok eF.g Tryz.func83 rfl (Nat.le_of_ble_eq_true rfl) fun w F => ?_
 repeat' first | refine Go.seq ?_ | refine Go.region rfl ?_ | refine Ops.nil ?_ | refine Ops.val eF rfl rfl Zw Z1 ?_ | refine Ops.call eF rfl rfl Zw rfl rfl rfl rfl (k51 _ _) rfl ?_ | refine Go.retF rfl ?_ rfl
 all_goals rfl
def orI : List Int → Int
 | [] => 0
 | x :: l => if x = 0 then orI l else x
theorem orI_at : ∀ {l : List Int} {i : Nat}, i < l.length → (∀ j, j < i → l.getD j default = 0) → l.getD i default ≠ 0 → orI l = l.getD i default
 | [], i, h, _, _ => by simp at h
 | x :: l, 0, _, _, h => by
  have h : x ≠ 0 := by simpa using h
  simp [orI, h]
 | x :: l, i + 1, h1, h2, h3 => by
  have hx : x = 0 := by simpa using h2 0 (by omega)
  have := orI_at (l := l) (i := i) (by simpa using h1) (fun j hj => by simpa using h2 (j + 1) (by omega)) (by simpa using h3)
  simp only [orI, hx, if_pos]
  rw [this]; rfl
theorem orI_0 : ∀ {l : List Int}, (∀ j, j < l.length → l.getD j default = 0) → orI l = 0
 | [], _ => rfl
 | x :: l, h => by
  have hx : x = 0 := by simpa using h 0 (by simp)
  simp only [orI, hx, if_pos]
  exact orI_0 fun j hj => by simpa using h (j + 1) (by simpa using hj)
theorem k34 (l : List Int) (hl : l.length ≤ 100000) : KOk cF 81 [dsl 1 encI l] (.int .i64 (orI l)) := by
 refine KOk.of cF_ok eF.g Tryz.func81 rfl (Nat.le_of_ble_eq_true rfl) fun w F => ?_
 repeat' first | refine Go.seq ?_ | refine Go.region rfl ?_ | refine Ops.nil ?_ | refine Ops.val eF rfl rfl Zw (by first | exact Z1 | exact Z6) ?_ | refine Go.block ?_
 refine Go.loop (fun i : Nat => [(8, .int .i64 i), (7, .int .i64 l.length), (6, dsl 1 encI l), (3, .int .i64 0)]) (fun _ => hS) (fun i => i ≤ l.length ∧ ∀ j, j < i → l.getD j default = 0) (fun i => l.length - i) 0 ⟨by omega, fun j hj => by omega⟩ Zt rfl (fun i hP ih => ?_)
 obtain ⟨hi, hn⟩ := hP
 repeat' first | refine Go.seq ?_ | refine Go.region rfl ?_ | refine Ops.nil ?_ | refine Ops.val eF rfl rfl Zw (by first | exact Z1 | exact Z3 | exact Y14 | exact Y24 | exact Z5) ?_ | refine Go.condPt rfl (fun _ => ?_) (fun _ => ?_) | refine Go.condNt rfl (fun _ => ?_) (fun _ => ?_) | refine Go.block ?_ | refine Go.unblk ?_ | refine Go.skip ?_ | refine Go.exit rfl ?_ | refine Go.retF rfl ?_ rfl
 all_goals try simp only [Int.toNat_natCast] at *
 ·rw [orI_at (i := i) (by omega) hn (by assumption)]; rfl
 ·refine Go.to (ih (i + 1) ⟨by omega, fun j hj => ?_⟩ (by omega)) Zt
  rcases lt_succ_cases hj with h | rfl
  ·exact hn j h
  ·assumption
 ·rw [orI_0 (fun j hj => hn j (by omega))]; rfl
end Go.Px.Ds
end
section
set_option maxHeartbeats 4000000
set_option maxRecDepth 20000
namespace Go.Px.Ds
open Go.Proofs
noncomputable def cmpVa (a b : Va) : Int := orI [cmpI a.k b.k, cmpI a.n b.n, Lib.compareBytes a.s b.s]
theorem cmpB_at : ∀ {a b : List UInt8} {i : Nat}, i < a.length → i < b.length → (∀ j, j < i → a.getD j 0 = b.getD j 0) →
  Lib.compareBytes a b = if a.getD i 0 < b.getD i 0 then -1 else if b.getD i 0 < a.getD i 0 then 1 else Lib.compareBytes (a.drop (i + 1)) (b.drop (i + 1))
 | [], _, _, h, _, _ => by simp at h
 | _ :: _, [], _, _, h, _ => by simp at h
 | x :: a, y :: b, 0, _, _, _ => by simp [Lib.compareBytes]
 | x :: a, y :: b, i + 1, h1, h2, h3 => by
  have hx : x = y := by simpa using h3 0 (by omega)
  subst hx
  have := cmpB_at (a := a) (b := b) (i := i) (by simpa using h1) (by simpa using h2) (fun j hj => by simpa using h3 (j + 1) (by omega))
  simp only [Lib.compareBytes, List.getD_cons_succ, List.drop_succ_cons]
  rw [if_neg (by simp [UInt8.lt_irrefl]), if_neg (by simp [UInt8.lt_irrefl]), this]
theorem cmpB_end : ∀ {a b : List UInt8}, (∀ j, j < a.length → j < b.length → a.getD j 0 = b.getD j 0) → Lib.compareBytes a b = if a.length < b.length then -1 else if b.length < a.length then 1 else 0
 | [], [], _ => by simp [Lib.compareBytes]
 | [], _ :: _, _ => by simp [Lib.compareBytes]
 | _ :: _, [], _ => by simp [Lib.compareBytes]
 | x :: a, y :: b, h => by
  have hx : x = y := by simpa using h 0 (by simp) (by simp)
  subst hx
  have := cmpB_end (a := a) (b := b) (fun j h1 h2 => by simpa using h (j + 1) (by simpa using h1) (by simpa using h2))
  simp only [Lib.compareBytes, List.length_cons]
  rw [if_neg (by simp [UInt8.lt_irrefl]), if_neg (by simp [UInt8.lt_irrefl]), this]
  simp
theorem byt_lt {a b : List UInt8} {i : Nat} : byt a i < byt b i ↔ a.getD i 0 < b.getD i 0 := by
 unfold byt
 rw [UInt8.lt_iff_toNat_lt]; omega
theorem byt_eq {a b : List UInt8} {i : Nat} (h1 : ¬ byt a i < byt b i) (h2 : ¬ byt b i < byt a i) : a.getD i 0 = b.getD i 0 := by
 apply UInt8.toNat_inj.1
 unfold byt at h1 h2; omega
theorem orI3 (x y z : Int) : orI [x, y, z] = if x = 0 then (if y = 0 then z else y) else x := by
 simp only [orI]
 by_cases h : z = 0 <;> simp [h]
noncomputable def r57_0 : List Oper := ((drawn (Tryz.f57.body.getD .skip))[0]?).getD []
theorem dr57_0 : chkOrd cF r57_0 [0, 1, 2, 3, 4, 5, 6, 7, 8] = true := by kernel_rfl
noncomputable def r57_1 : List Oper := ((drawn (Tryz.f57.body.getD .skip))[1]?).getD []
theorem dr57_1 : chkOrd cF r57_1 [0, 1, 2, 3, 4, 5, 6, 7, 8] = true := by kernel_rfl
theorem k30 (a b : Va) (ha : a.s.length ≤ 100000) (hb : b.s.length ≤ 100000) : KOk cF 57 [.agg (encVa a), .agg (encVa b)] (.int .i64 (cmpVa a b)) := by
 refine KOk.of cF_ok eF.g Tryz.func57 rfl (Nat.le_of_ble_eq_true rfl) fun w F => ?_
 unfold cmpVa
 rw [orI3]
 repeat' first | refine Go.seq ?_ | refine Go.region rfl ?_ | refine Ops.nil ?_ | refine Ops.val eF rfl rfl Zw (by first | exact Z1 | exact Z3 | exact Z4 | exact Z5) ?_ | refine Ops.boxR eF rfl rfl Zw rfl rfl rfl rfl ?_ | refine Go.condPt rfl (fun _ => ?_) (fun _ => ?_) | refine Go.block ?_ | refine Go.skip ?_ | refine Go.retF rfl ?_ rfl
 ·simp [one, ofV, ofV0, cmpI, *]
 ·simp [one, ofV, ofV0, cmpI, *]
 ·simp [one, ofV, ofV0, cmpI, *]
 ·simp [one, ofV, ofV0, cmpI, *]
 rename_i h1 h2 h3 h4
 have hk : cmpI a.k b.k = 0 := by simp [cmpI, *]
 have hn : cmpI a.n b.n = 0 := by simp [cmpI, *]
 rw [if_pos hk, if_pos hn]
 refine Go.loop (fun i : Nat => [(2, .rptr (encVa a)), (3, .rptr (encVa b)), (5, .int .i64 i)]) (fun _ => hS) (fun i => i ≤ a.s.length ∧ i ≤ b.s.length ∧ ∀ j, j < i → a.s.getD j 0 = b.s.getD j 0) (fun i => a.s.length - i) 0 ⟨by omega, by omega, fun j hj => by omega⟩ Zt rfl (fun i hP ih => ?_)
 obtain ⟨hia, hib, hq⟩ := hP
 repeat' first | refine Go.seq ?_ | refine Go.region rfl ?_ | refine Ops.nil ?_ | refine Ops.val eF rfl rfl Zw (by first | exact Z1 | exact Z2 | exact Z3 | exact Z4 | exact Z5 | exact Z6) ?_ | refine Ops.skip rfl rfl Zn ?_ | refine Ops.gP rfl rfl (fun _ => ?_) (fun _ => ?_) | refine Go.condF rfl ?_ | refine Go.condPt rfl (fun _ => ?_) (fun _ => ?_) | refine Go.block ?_ | refine Go.skip ?_ | refine Go.exit rfl ?_ | refine Go.retF rfl ?_ rfl
 ·refine Go.draw eF hm [] [0, 1, 2, 3, 4, 5, 6, 7, 8] dr57_0 ?_
  repeat' first | refine Dr.nil ?_ | refine Dr.pure rfl rfl rfl rfl Zw (by first | exact Z1 | exact Z3 | exact Z4 | exact Y26 | exact Z5) ?_ | refine Dr.light rfl rfl rfl rfl Zw Z5 ?_
  repeat' first | refine Go.seq ?_ | refine Go.region rfl ?_ | refine Ops.nil ?_ | refine Ops.val eF rfl rfl Zw Z1 ?_ | refine Go.condPt rfl (fun _ => ?_) (fun _ => ?_) | refine Go.skip ?_ | refine Go.retF rfl ?_ rfl
  ·rename_i q1 q2 q3
   have q3 : byt a.s i < byt b.s i := q3
   rw [cmpB_at (i := i) (by omega) (by omega) hq, if_pos (byt_lt.1 q3)]; rfl
  ·refine Go.draw eF hm [] [0, 1, 2, 3, 4, 5, 6, 7, 8] dr57_1 ?_
   repeat' first | refine Dr.nil ?_ | refine Dr.pure rfl rfl rfl rfl Zw (by first | exact Z1 | exact Z3 | exact Z4 | exact Y26 | exact Z5) ?_ | refine Dr.light rfl rfl rfl rfl Zw Z5 ?_
   repeat' first | refine Go.seq ?_ | refine Go.region rfl ?_ | refine Ops.nil ?_ | refine Ops.val eF rfl rfl Zw (by first | exact Z1 | exact Y14) ?_ | refine Go.condPt rfl (fun _ => ?_) (fun _ => ?_) | refine Go.unblk ?_ | refine Go.skip ?_ | refine Go.retF rfl ?_ rfl
   ·rename_i q1 q2 q3 q4
    have q3 : ¬ byt a.s i < byt b.s i := q3
    have q4 : byt b.s i < byt a.s i := q4
    rw [cmpB_at (i := i) (by omega) (by omega) hq, if_neg (fun h => q3 (byt_lt.2 h)), if_pos (byt_lt.1 q4)]; rfl
   ·rename_i q1 q2 q3 q4
    refine Go.to (ih (i + 1) ⟨by omega, by omega, fun j hj => ?_⟩ (by omega)) Zt
    rcases lt_succ_cases hj with h | rfl
    ·exact hq j h
    ·exact byt_eq q3 q4
 all_goals
  rw [cmpB_end (fun j h1 h2 => hq j (by omega))]
  first
   | (rw [if_pos (by omega)]; rfl)
   | (rw [if_neg (by omega), if_pos (by omega)]; rfl)
   | (rw [if_neg (by omega), if_neg (by omega)]; rfl)
end Go.Px.Ds
end
section
set_option maxHeartbeats 4000000
set_option maxRecDepth 20000
namespace Go.Px.Ds
open Go.Proofs
theorem sA_eq {a b : List UInt8} (h : sA a = sA b) : a = b := by
 unfold sA at h
 have h : a.map UInt8.toNat = b.map UInt8.toNat := by injection h
 exact List.map_inj_right (fun x y q => UInt8.toNat_inj.1 q) |>.1 h
theorem int_eq {k : IntKind} {a b : Int} (h : AV.int k a = AV.int k b) : a = b := by injection h
theorem cons_eq {a b : AV} {l m : List AV} (h : a :: l = b :: m) : a = b ∧ l = m := by injection h with h1 h2; exact ⟨h1, h2⟩
theorem pair_eq {x y u v : AV} (h : [x, y] = [u, v]) : x = u ∧ y = v := by
 obtain ⟨h1, h⟩ := cons_eq h
 exact ⟨h1, (cons_eq h).1⟩
noncomputable def n44 : Ent cF := ⟨82, Int × Int, fun p => [.int .i64 p.1, .int .i64 p.2], fun p => .int .i64 (cmpI p.1 p.2), fun p => k44 _ _, fun _ => rfl, fun a b h => by
 have h := pair_eq h; rw [int_eq h.1, int_eq h.2]⟩
noncomputable def n35 : Ent cF := ⟨66, Int × Int, fun p => [.int .i64 p.1, .int .i64 p.2], fun p => .int .i64 (cmpI p.1 p.2), fun p => k35 _ _, fun _ => rfl, fun a b h => by
 have h := pair_eq h; rw [int_eq h.1, int_eq h.2]⟩
noncomputable def n45 : Ent cF := ⟨83, List UInt8 × List UInt8, fun p => [sA p.1, sA p.2], fun p => .int .i64 (Lib.compareBytes p.1 p.2), fun p => k45 _ _, fun _ => rfl, fun a b h => by
 have h := pair_eq h; rw [sA_eq h.1, sA_eq h.2]⟩
noncomputable def r65_0 : List Oper := ((drawn (Tryz.f65.body.getD .skip))[0]?).getD []
theorem drS65_0 : chkOrdS cF r65_0 15 = true := by kernel_rfl
theorem k36 (a b : Va) : KOk cF 65 [.agg (encVa a), .agg (encVa b)] (.int .i64 (cmpVa a b)) := by
 refine KOk.of cF_ok eF.g Tryz.func65 rfl (Nat.le_of_ble_eq_true rfl) fun w F => ?_
 unfold cmpVa
 repeat' first | refine Go.seq ?_ | refine Go.region rfl ?_ | refine Ops.nil ?_ | refine Ops.val eF rfl rfl Zw Z1 ?_ | refine Ops.boxR eF rfl rfl Zw rfl rfl rfl rfl ?_
 refine Go.drawS2 eF hm [n44, n35, n45] 15 [0, 1, 2, 3, 4, 5, 6, 7, 8, 9, 10, 11, 12, 13, 14] rfl drS65_0 ?_
 repeat' first | refine Dr.nil ?_ | refine Dr.pure rfl rfl rfl rfl Zw (by first | exact Z4 | exact Z5) ?_ | refine Dr.light rfl rfl rfl rfl Zw Z5 ?_ | refine Dr.call rfl rfl rfl rfl Zw rfl rfl rfl rfl (by first | exact pans_hd (_, _) rfl rfl | exact pans_tl rfl (pans_hd (_, _) rfl rfl) | exact pans_tl rfl (pans_tl rfl (pans_hd (_, _) rfl rfl))) ?_
 all_goals refine Go.suf rfl ?_
 repeat' first | refine Ops.nil ?_ | refine Ops.val eF rfl rfl Zw Z1 ?_ | refine Ops.call eF rfl rfl Zw rfl rfl rfl rfl (k34 [_, _, _] (by simp)) rfl ?_ | refine Ops.data eF rfl rfl Zw rfl (Hop.bslice eF rfl rfl rfl rfl rfl rfl rfl rfl rfl rfl rfl) rfl rfl ?_ | refine Go.retF rfl ?_ rfl
 rfl
def DaP (d : Da) : Prop := (0 ≤ d.e ∧ d.e < 9007199254740992) ∧ (0 ≤ d.a ∧ d.a < 9007199254740992) ∧ VaP d.v ∧ (1 ≤ d.t ∧ d.t ≤ 1099511627776) ∧ d.fr < d.to
end Go.Px.Ds
end
section
set_option maxHeartbeats 4000000
set_option maxRecDepth 20000
namespace Go.Px.Ds
open Go.Proofs
theorem k16 (d : Da) (hd : d.v.s.length ≤ 100000) : KOk cF 35 [.agg (encDa d)] (.bool (bd (DaP d))) := by
 refine KOk.of cF_ok eF.g Tryz.func35 rfl (Nat.le_of_ble_eq_true rfl) fun w F => ?_
 repeat' first | refine Go.seq ?_ | refine Go.region rfl ?_ | refine Ops.nil ?_ | refine Ops.val eF rfl rfl Zw (by first | exact Z1 | exact Z2 | exact Z3 | exact Z4 | exact Z5) ?_ | refine Ops.skip rfl rfl Zn ?_ | refine Ops.gP rfl rfl (fun _ => ?_) (fun _ => ?_) | refine Ops.call eF rfl rfl Zw rfl rfl rfl rfl (k28 _) rfl ?_ | refine Ops.call eF rfl rfl Zw rfl rfl rfl rfl (k29 d.v hd) rfl ?_ | refine Ops.boxR eF rfl rfl Zw rfl rfl rfl rfl ?_ | refine Go.retF rfl ?_ rfl
 all_goals first
  | (refine out_t ?_; simp [DaP, *]; done)
  | (refine out_f ?_; simp [DaP, *]; done)
  | (refine out_e ?_; simp [DaP, *]; done)
  | (refine out_f ?_; simp [DaP, *]; omega)
  | (refine out_e ?_; simp [DaP, *]; omega)
theorem k42 (d : Da) (hd : d.v.s.length ≤ 100000) : KOk cF 48 [.agg (encDa d)] (.bool (bd (DaP d))) := by
 refine KOk.of cF_ok eF.g Tryz.func48 rfl (Nat.le_of_ble_eq_true rfl) fun w F => ?_
 by_cases hv : VaP d.v
 ·have e : (bif bd (VaP d.v) then (0 : Int) else 10) = 0 := by rw [bd_of hv]; rfl
  have kv := k49 d.v hd
  rw [e] at kv
  repeat' first | refine Go.seq ?_ | refine Go.region rfl ?_ | refine Ops.nil ?_ | refine Ops.val eF rfl rfl Zw (by first | exact Z1 | exact Z2 | exact Z3 | exact Z4 | exact Z5) ?_ | refine Ops.skip rfl rfl Zn ?_ | refine Ops.gT rfl rfl Za ?_ | refine Ops.gP rfl rfl (fun _ => ?_) (fun _ => ?_) | refine Ops.call eF rfl rfl Zw rfl rfl rfl rfl (kv) rfl ?_ | refine Ops.boxR eF rfl rfl Zw rfl rfl rfl rfl ?_ | refine Go.retF rfl ?_ rfl
  all_goals first
   | (refine out_t ?_; simp [DaP, *]; done)
   | (refine out_f ?_; simp [DaP, *]; done)
   | (refine out_e ?_; simp [DaP, *]; done)
   | (refine out_f ?_; simp [DaP, *]; omega)
   | (refine out_e ?_; simp [DaP, *]; omega)
 ·have e : (bif bd (VaP d.v) then (0 : Int) else 10) = 10 := by rw [bd_no hv]; rfl
  have kv := k49 d.v hd
  rw [e] at kv
  repeat' first | refine Go.seq ?_ | refine Go.region rfl ?_ | refine Ops.nil ?_ | refine Ops.val eF rfl rfl Zw (by first | exact Z1 | exact Z2 | exact Z3 | exact Z4 | exact Z5) ?_ | refine Ops.skip rfl rfl Zn ?_ | refine Ops.gF rfl rfl Za ?_ | refine Ops.gP rfl rfl (fun _ => ?_) (fun _ => ?_) | refine Ops.call eF rfl rfl Zw rfl rfl rfl rfl (kv) rfl ?_ | refine Ops.boxR eF rfl rfl Zw rfl rfl rfl rfl ?_ | refine Go.retF rfl ?_ rfl
  all_goals first
   | (refine out_f ?_; simp [DaP, *]; done)
   | (refine out_e ?_; simp [DaP, *]; done)
   | (exfalso; omega)
theorem k32 (d : Da) (hd : d.v.s.length ≤ 100000) : KOk cF 40 [.agg (encDa d)] (.int .i64 (bif bd (DaP d) then 0 else 40)) := by
 refine KOk.of cF_ok eF.g Tryz.func40 rfl (Nat.le_of_ble_eq_true rfl) fun w F => ?_
 repeat' first | refine Go.seq ?_ | refine Go.region rfl ?_ | refine Ops.nil ?_ | refine Ops.val eF rfl rfl Zw (by first | exact Z1 | exact Z2 | exact Z5) ?_ | refine Ops.call eF rfl rfl Zw rfl rfl rfl rfl (k42 d hd) rfl ?_ | refine Ops.boxR eF rfl rfl Zw rfl rfl rfl rfl ?_ | refine Go.condNt rfl (fun _ => ?_) (fun _ => ?_) | refine Go.skip ?_ | refine Go.retF rfl ?_ rfl
 all_goals first | (rw [bd_of (by assumption)]; rfl) | (rw [bd_no (by assumption)]; rfl)
end Go.Px.Ds
end
section
namespace Go.Px.De
open Go.Proofs Go.Px.Ds
abbrev Str := List UInt8
structure Pt where
 val : Bool
 n : Int
 v : Va
instance : Inhabited Pt := ⟨⟨false, 0, default⟩⟩
def encPt (p : Pt) : List AV := [.bool p.val, .int .i64 p.n, .int .i64 p.v.k, .int .i64 p.v.n, sA p.v.s]
def ptsA (l : List Pt) : AV := dsl 5 encPt l
def nmP (n : Int) : Pt := ⟨false, n, default⟩
def sdP (v : Va) : Pt := ⟨true, 0, v⟩
def addN (d : Da) : Int := bif d.add then 0 else 1
def ptsE (d : Da) : List Pt := [nmP d.e, nmP d.a, sdP d.v, nmP d.t, nmP (addN d), nmP d.fr, nmP d.to]
noncomputable def cmpPt (a b : Pt) : Int := bif a.val then cmpVa a.v b.v else cmpI a.n b.n
noncomputable def cmpDa (a b : Da) : Int := orI [cmpI a.e b.e, cmpI a.a b.a, cmpVa a.v b.v, cmpI a.t b.t, cmpI (addN a) (addN b), cmpI a.fr b.fr, cmpI a.to b.to]
end Go.Px.De
end
