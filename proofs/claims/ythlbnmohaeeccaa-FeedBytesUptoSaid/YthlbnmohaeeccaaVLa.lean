/- Parts of the proof in YthlbnmohaeeccaaVFin: FsA, FsB, FsD, FsH, FsE, FsI, FsF, FsG, FsJ, FsJa, FeA, FeP, FeQ, FeS, FeBa. -/
import Derived.Test.YthlbnmohaeeccaaVK4
import Derived.Test.YthlbnmohaeeccaaChecked
set_option linter.unusedVariables false
set_option linter.unusedSimpArgs false
section
namespace Go.Px.Fs
open Go.Proofs
noncomputable def cF : Ctx := ctxG Try.prog h0
theorem cF_ok : CtxOk cF := ctxG_ok (by kernel_rfl)
def tbF : List (Nat × TE) := [(2, ⟨.int .i64, 1, 8, .int .i64 0⟩),
 (3, ⟨.int .i64, 1, 8, .int .i64 0⟩),
 (4, ⟨.bool, 1, 1, .bool false⟩),
 (5, ⟨.int .u8, 1, 1, .int .u8 0⟩),
 (9, ⟨.str, 1, 16, .str []⟩),
 (23, ⟨.slice 5, 1, 24, .nilsl⟩),
 (28, ⟨.int .i64, 1, 8, .int .i64 0⟩),
 (45, ⟨.slice 87, 1, 24, .nilsl⟩),
 (56, ⟨.struct [(0, 3), (1, 2), (2, 9)], 3, 32, .agg [.int .i64 0, .int .i64 0, .str []]⟩),
 (58, ⟨.struct [(0, 2), (1, 2), (2, 56), (5, 2), (6, 4), (7, 2), (8, 2)], 9, 80, .agg [.int .i64 0, .int .i64 0, .int .i64 0, .int .i64 0, .str [], .int .i64 0, .bool false, .int .i64 0, .int .i64 0]⟩),
 (85, ⟨.slice 126, 1, 24, .nilsl⟩),
 (87, ⟨.struct [(0, 2), (1, 2), (2, 56), (5, 85)], 6, 72, .agg [.int .i64 0, .int .i64 0, .int .i64 0, .int .i64 0, .str [], .nilsl]⟩),
 (102, ⟨.int .u64, 1, 8, .int .u64 0⟩),
 (126, ⟨.struct [(0, 2), (1, 2)], 2, 16, .agg [.int .i64 0, .int .i64 0]⟩),
 (136, ⟨.slice 2, 1, 24, .nilsl⟩),
 (188, ⟨.slice 3, 1, 24, .nilsl⟩)]
theorem eF : Env cF tbF := ⟨cF_ok, TbP.at_ (tb := tbF) ⟨⟨by kernel_rfl, by kernel_rfl, by kernel_rfl⟩, ⟨by kernel_rfl, by kernel_rfl, by kernel_rfl⟩, ⟨by kernel_rfl, by kernel_rfl, by kernel_rfl⟩, ⟨by kernel_rfl, by kernel_rfl, by kernel_rfl⟩, ⟨by kernel_rfl, by kernel_rfl, by kernel_rfl⟩, ⟨by kernel_rfl, by kernel_rfl, by kernel_rfl⟩, ⟨by kernel_rfl, by kernel_rfl, by kernel_rfl⟩, ⟨by kernel_rfl, by kernel_rfl, by kernel_rfl⟩, ⟨by kernel_rfl, by kernel_rfl, by kernel_rfl⟩, ⟨by kernel_rfl, by kernel_rfl, by kernel_rfl⟩, ⟨by kernel_rfl, by kernel_rfl, by kernel_rfl⟩, ⟨by kernel_rfl, by kernel_rfl, by kernel_rfl⟩, ⟨by kernel_rfl, by kernel_rfl, by kernel_rfl⟩, ⟨by kernel_rfl, by kernel_rfl, by kernel_rfl⟩, ⟨by kernel_rfl, by kernel_rfl, by kernel_rfl⟩, ⟨by kernel_rfl, by kernel_rfl, by kernel_rfl⟩, trivial⟩, fun i r q => by rw [show cF.g0.get i = .none from h0_get i] at q; cases q⟩
theorem _root_.Go.Px.Go.to {X : Cx} {sz : Nat} {rd : Option Nat} {k : List It} {L M : List (Nat × AV)} {h : Heap} {m : List Nat} {Q : Post} (g : Go X sz rd k M h m Q) (hs : SubL L M) : Go X sz rd k L h m Q := Go.sub hs g
theorem lt_succ_cases {j i : Nat} (h : j < i + 1) : j < i ∨ j = i := by omega
/-! ## data -/
structure Sp where
 a : Int
 b : Int
instance : Inhabited Sp := ⟨⟨0, 0⟩⟩
structure Va where
 k : Int
 n : Int
 s : List UInt8
instance : Inhabited Va := ⟨⟨0, 0, []⟩⟩
structure Fa where
 e : Int
 a : Int
 v : Va
 l : List Sp
instance : Inhabited Fa := ⟨⟨0, 0, default, []⟩⟩
structure Da where
 e : Int
 a : Int
 v : Va
 t : Int
 add : Bool
 fr : Int
 to : Int
instance : Inhabited Da := ⟨⟨0, 0, default, 0, false, 0, 0⟩⟩
def encI (n : Int) : List AV := [.int .i64 n]
def encVa (v : Va) : List AV := [.int .i64 v.k, .int .i64 v.n, sA v.s]
def encDa (d : Da) : List AV := [.int .i64 d.e, .int .i64 d.a, .int .i64 d.v.k, .int .i64 d.v.n, sA d.v.s, .int .i64 d.t, .bool d.add, .int .i64 d.fr, .int .i64 d.to]
theorem hm : cF.P.follows .mixedOrders = true := by kernel_rfl
end Go.Px.Fs
end
section
set_option maxHeartbeats 4000000
set_option maxRecDepth 20000
namespace Go.Px.Fs
open Go.Proofs
theorem k28 (n : Int) : KOk cF 48 [.int .i64 n] (.bool (bd (0 ≤ n ∧ n < 9007199254740992))) := by
 refine KOk.of cF_ok eF.g Try.func48 rfl (Nat.le_of_ble_eq_true rfl) fun w F => ?_
 repeat' first | refine Go.seq ?_ | refine Go.region rfl ?_ | refine Ops.nil ?_ | refine Ops.val eF rfl rfl Zw (by first | exact Z1 | exact Z2 | exact Z3) ?_ | refine Ops.skip rfl rfl Zn ?_ | refine Ops.gP rfl rfl (fun _ => ?_) (fun _ => ?_) | refine Go.retF rfl ?_ rfl
 all_goals simp [one, ofV, ofV0, ← bd_dec, *]
theorem k47 (c : Int) : KOk cF 100 [.int .u8 c] (.bool (bd (97 ≤ c ∧ c ≤ 122))) := by
 refine KOk.of cF_ok eF.g Try.func100 rfl (Nat.le_of_ble_eq_true rfl) fun w F => ?_
 repeat' first | refine Go.seq ?_ | refine Go.region rfl ?_ | refine Ops.nil ?_ | refine Ops.val eF rfl rfl Zw (by first | exact Z1 | exact Z2 | exact Z3) ?_ | refine Ops.skip rfl rfl Zn ?_ | refine Ops.gP rfl rfl (fun _ => ?_) (fun _ => ?_) | refine Go.retF rfl ?_ rfl
 all_goals simp [one, ofV, ofV0, ← bd_dec, *]
theorem k48 (c : Int) : KOk cF 101 [.int .u8 c] (.bool (bd (48 ≤ c ∧ c ≤ 57))) := by
 refine KOk.of cF_ok eF.g Try.func101 rfl (Nat.le_of_ble_eq_true rfl) fun w F => ?_
 repeat' first | refine Go.seq ?_ | refine Go.region rfl ?_ | refine Ops.nil ?_ | refine Ops.val eF rfl rfl Zw (by first | exact Z1 | exact Z2 | exact Z3) ?_ | refine Ops.skip rfl rfl Zn ?_ | refine Ops.gP rfl rfl (fun _ => ?_) (fun _ => ?_) | refine Go.retF rfl ?_ rfl
 all_goals simp [one, ofV, ofV0, ← bd_dec, *]
theorem k43 (n : Int) : KOk cF 130 [.int .i64 n] (.bool false) := by
 refine KOk.of cF_ok eF.g Try.func130 rfl (Nat.le_of_ble_eq_true rfl) fun w F => ?_
 repeat' first | refine Go.seq ?_ | refine Go.region rfl ?_ | refine Ops.nil ?_ | refine Ops.val eF rfl rfl Zw (by first | exact Z1 | exact Z3) ?_ | refine Go.retF rfl ?_ rfl
 all_goals simp [one, ofV, ofV0, ← bd_dec, *]
theorem k50 (n : Int) : KOk cF 137 [.int .i64 n] (.bool false) := by
 refine KOk.of cF_ok eF.g Try.func137 rfl (Nat.le_of_ble_eq_true rfl) fun w F => ?_
 repeat' first | refine Go.seq ?_ | refine Go.region rfl ?_ | refine Ops.nil ?_ | refine Ops.val eF rfl rfl Zw (by first | exact Z1 | exact Z3) ?_ | refine Go.retF rfl ?_ rfl
 all_goals simp [one, ofV, ofV0, ← bd_dec, *]
def cmpI (a b : Int) : Int := if a < b then -1 else if b < a then 1 else 0
theorem k35 (a b : Int) : KOk cF 110 [.int .i64 a, .int .i64 b] (.int .i64 (cmpI a b)) := by
 refine KOk.of cF_ok eF.g Try.func110 rfl (Nat.le_of_ble_eq_true rfl) fun w F => ?_
 repeat' first | refine Go.seq ?_ | refine Go.region rfl ?_ | refine Ops.nil ?_ | refine Ops.val eF rfl rfl Zw (by first | exact Z1 | exact Z3) ?_ | refine Ops.call eF rfl rfl Zw rfl rfl rfl rfl (k43 _) rfl ?_ | refine Go.condF rfl ?_ | refine Go.condPt rfl (fun _ => ?_) (fun _ => ?_) | refine Go.skip ?_ | refine Go.retF rfl ?_ rfl
 all_goals simp [one, ofV, ofV0, cmpI, *]
theorem k44 (a b : Int) : KOk cF 128 [.int .i64 a, .int .i64 b] (.int .i64 (cmpI a b)) := by
 refine KOk.of cF_ok eF.g Try.func128 rfl (Nat.le_of_ble_eq_true rfl) fun w F => ?_
 repeat' first | refine Go.seq ?_ | refine Go.region rfl ?_ | refine Ops.nil ?_ | refine Ops.val eF rfl rfl Zw (by first | exact Z1 | exact Z3) ?_ | refine Ops.call eF rfl rfl Zw rfl rfl rfl rfl (k50 _) rfl ?_ | refine Go.condF rfl ?_ | refine Go.condPt rfl (fun _ => ?_) (fun _ => ?_) | refine Go.skip ?_ | refine Go.retF rfl ?_ rfl
 all_goals simp [one, ofV, ofV0, cmpI, *]
end Go.Px.Fs
end
section
set_option maxHeartbeats 4000000
set_option maxRecDepth 20000
namespace Go.Px.Fs
open Go.Proofs
theorem bd_eq {p q : Prop} (h : p ↔ q) : bd p = bd q := by rw [propext h]
def byt (s : List UInt8) (i : Nat) : Int := ((s.getD i 0).toNat : Int)
def WoC (c : Int) : Prop := (97 ≤ c ∧ c ≤ 122) ∨ (48 ≤ c ∧ c ≤ 57) ∨ c = 46 ∨ c = 95 ∨ c = 45 ∨ c = 47
def WordP (s : List UInt8) : Prop := 1 ≤ s.length ∧ s.length ≤ 64 ∧ (97 ≤ byt s 0 ∧ byt s 0 ≤ 122) ∧ ∀ j, j < s.length → WoC (byt s j)
theorem k39 (s : List UInt8) (hs : s.length ≤ 100000) : KOk cF 78 [sA s] (.bool (bd (WordP s))) := by
  refine KOk.of cF_ok eF.g Try.func78 rfl (Nat.le_of_ble_eq_true rfl) fun w F => ?_
  repeat' first | refine Go.seq ?_ | refine Go.region rfl ?_ | refine Ops.nil ?_ | refine Ops.val eF rfl rfl Zw (by first | exact Z1 | exact Z2 | exact Z3 | exact Y26 | exact Z6) ?_ | refine Ops.skip rfl rfl Zn ?_ | refine Ops.gP rfl rfl (fun _ => ?_) (fun _ => ?_) | refine Ops.call eF rfl rfl Zw rfl rfl rfl rfl (k47 _) rfl ?_ | refine Go.condT rfl ?_ | refine Go.condNt rfl (fun _ => ?_) (fun _ => ?_) | refine Go.block ?_ | refine Go.skip ?_ | refine Go.retF rfl ?_ rfl
  · rw [bd_no (fun h => by have := h.1; omega)]; rfl
  · rw [bd_no (fun h => by have := h.2.1; omega)]; rfl
  · rw [bd_no (fun h => by rename_i h1; exact h1 h.2.2.1)]; rfl
  rename_i h1 h2 h3
  refine Go.loop (fun i : Nat => [(0, sA s), (3, .int .i64 i)]) (fun _ => hS) (fun i => i ≤ s.length ∧ ∀ j, j < i → WoC (byt s j)) (fun i => s.length - i) 0 ⟨by omega, fun j hj => by omega⟩ Zt rfl (fun i hP ih => ?_)
  obtain ⟨hi, hn⟩ := hP
  repeat' first | refine Go.seq ?_ | refine Go.region rfl ?_ | refine Ops.nil ?_ | refine Ops.val eF rfl rfl Zw (by first | exact Z1 | exact Z2 | exact Z3 | exact Y14 | exact Y26 | exact Z6) ?_ | refine Ops.skip rfl rfl Zn ?_ | refine Ops.gN rfl rfl (fun _ => ?_) (fun _ => ?_) | refine Ops.call eF rfl rfl Zw rfl rfl rfl rfl (k47 _) rfl ?_ | refine Ops.call eF rfl rfl Zw rfl rfl rfl rfl (k48 _) rfl ?_ | refine Go.condF rfl ?_ | refine Go.condPt rfl (fun _ => ?_) (fun _ => ?_) | refine Go.condNt rfl (fun _ => ?_) (fun _ => ?_) | refine Go.block ?_ | refine Go.unblk ?_ | refine Go.skip ?_ | refine Go.exit rfl ?_ | refine Go.retF rfl ?_ rfl
  all_goals try simp only [Int.toNat_natCast] at *
  all_goals first
    | (refine Go.to (ih (i + 1) ⟨by omega, fun j hj => ?_⟩ (by omega)) Zt
       rcases lt_succ_cases hj with h | rfl
       · exact hn j h
       · unfold WoC byt; omega)
    | (rw [bd_no (fun h => by have := h.2.2.2 i (by omega); unfold WoC byt at this; omega)]; rfl)
    | (rw [bd_of ⟨by omega, by omega, h3, fun j hj => hn j (by omega)⟩]; rfl)
end Go.Px.Fs
end
section
set_option maxHeartbeats 4000000
set_option maxRecDepth 20000
namespace Go.Px.Fs
open Go.Proofs
def VaP (v : Va) : Prop :=
 if v.k = 1 ∨ v.k = 6 then v.s = []
 else if v.k = 2 then v.s = [] ∧ (v.n = 0 ∨ v.n = 1)
 else if v.k = 3 ∨ v.k = 4 then v.n = 0 ∧ v.s.length ≤ 1000
 else if v.k = 5 then v.s = [] ∧ 0 ≤ v.n ∧ v.n < 9007199254740992
 else if v.k = 7 then v.n = 0 ∧ WordP v.s
 else False
theorem k29 (v : Va) (hv : v.s.length ≤ 100000) : KOk cF 49 [.agg (encVa v)] (.bool (bd (VaP v))) := by
 refine KOk.of cF_ok eF.g Try.func49 rfl (Nat.le_of_ble_eq_true rfl) fun w F => ?_
 repeat' first | refine Go.seq ?_ | refine Go.region rfl ?_ | refine Ops.nil ?_ | refine Ops.val eF rfl rfl Zw (by first | exact Z1 | exact Z2 | exact Z3 | exact Y12 | exact Z4 | exact Z5 | exact Z6) ?_ | refine Ops.skip rfl rfl Zn ?_ | refine Ops.gP rfl rfl (fun _ => ?_) (fun _ => ?_) | refine Ops.call eF rfl rfl Zw rfl rfl rfl rfl (k39 _ hv) rfl ?_ | refine Ops.boxR eF rfl rfl Zw rfl rfl rfl rfl ?_ | refine Go.condT rfl ?_ | refine Go.condPt rfl (fun _ => ?_) (fun _ => ?_) | refine Go.block ?_ | refine Go.unblk ?_ | refine Go.skip ?_ | refine Go.retF rfl ?_ rfl
 all_goals try simp only [show (({ data := #[] } : ByteArray).data.toList : List UInt8) = [] from rfl] at *
 all_goals first
  | (refine out_t ?_; simp [VaP, *]; done)
  | (refine out_f ?_; simp [VaP, *]; done)
  | (refine out_e ?_; simp [VaP, *]; done)
  | (refine out_e ?_; simp [VaP, *]; omega)
end Go.Px.Fs
end
section
set_option maxHeartbeats 4000000
set_option maxRecDepth 20000
namespace Go.Px.Fs
open Go.Proofs
theorem k54 (s : List UInt8) (hs : s.length ≤ 100000) : KOk cF 125 [sA s] (.bool (bd (WordP s))) := by
  refine KOk.of cF_ok eF.g Try.func125 rfl (Nat.le_of_ble_eq_true rfl) fun w F => ?_
  repeat' first | refine Go.seq ?_ | refine Go.region rfl ?_ | refine Ops.nil ?_ | refine Ops.val eF rfl rfl Zw (by first | exact Z1 | exact Z6) ?_ | refine Ops.bytes eF rfl rfl Zw rfl rfl rfl rfl rfl rfl rfl rfl ?_ | refine Go.block ?_
  refine Go.loop (fun i : Nat => [(0, sA s), (6, dsl 1 encU s), (7, .int .i64 s.length), (8, .int .i64 i)]) (fun _ => hS) (fun i => i ≤ s.length ∧ ∀ j, j < i → WoC (byt s j) ∧ (97 ≤ byt s 0 ∧ byt s 0 ≤ 122)) (fun i => s.length - i) 0 ⟨by omega, fun j hj => by omega⟩ Zt rfl (fun i hP ih => ?_)
  obtain ⟨hi, hn⟩ := hP
  repeat' first | refine Go.seq ?_ | refine Go.region rfl ?_ | refine Ops.nil ?_ | refine Ops.val eF rfl rfl Zw (by first | exact Z1 | exact Z2 | exact Z3 | exact Y14 | exact Y24 | exact Z5 | exact Z6) ?_ | refine Ops.skip rfl rfl Zn ?_ | refine Ops.gP rfl rfl (fun _ => ?_) (fun _ => ?_) | refine Go.condT rfl ?_ | refine Go.condF rfl ?_ | refine Go.condPt rfl (fun _ => ?_) (fun _ => ?_) | refine Go.block ?_ | refine Go.unblk ?_ | refine Go.skip ?_ | refine Go.exit rfl ?_ | refine Go.retF rfl ?_ rfl
  all_goals try simp only [Int.toNat_natCast, show (default : UInt8) = 0 from rfl] at *
  all_goals first
    | (refine Go.to (ih (i + 1) ⟨by omega, fun j hj => ?_⟩ (by omega)) Zt
       rcases Nat.eq_zero_or_pos i with rfl | h0
       · have : j = 0 := by omega
         subst this
         unfold WoC byt; omega
       · refine ⟨?_, (hn 0 (by omega)).2⟩
         rcases lt_succ_cases hj with h | rfl
         · exact (hn j h).1
         · unfold WoC byt; omega)
    | (rw [bd_no (p := WordP s) (fun h => by
         have h1 := h.1
         have h2 := h.2.1
         omega)]; rfl)
    | (rw [bd_no (p := WordP s) (fun h => by
         have h1 := h.2.2.1
         have h2 := h.2.2.2 i (by omega)
         rcases Nat.eq_zero_or_pos i with rfl | h0 <;> unfold WoC byt at * <;> omega)]; rfl)
    | (rw [bd_eq (q := WordP s) ⟨fun h => ⟨by omega, by omega, (hn 0 (by omega)).2, fun j hj => (hn j (by omega)).1⟩, fun h => by have := h.2.1; omega⟩]; rfl)
end Go.Px.Fs
end
section
set_option maxHeartbeats 4000000
set_option maxRecDepth 20000
namespace Go.Px.Fs
open Go.Proofs
theorem k52 (v : Va) (hv : v.s.length ≤ 100000) : KOk cF 102 [.agg (encVa v)] (.bool (bd (VaP v))) := by
 refine KOk.of cF_ok eF.g Try.func102 rfl (Nat.le_of_ble_eq_true rfl) fun w F => ?_
 repeat' first | refine Go.seq ?_ | refine Go.region rfl ?_ | refine Ops.nil ?_ | refine Ops.val eF rfl rfl Zw (by first | exact Z1 | exact Z2 | exact Z3 | exact Y12 | exact Z4 | exact Z5 | exact Z6) ?_ | refine Ops.skip rfl rfl Zn ?_ | refine Ops.gP rfl rfl (fun _ => ?_) (fun _ => ?_) | refine Ops.call eF rfl rfl Zw rfl rfl rfl rfl (k54 _ hv) rfl ?_ | refine Ops.boxR eF rfl rfl Zw rfl rfl rfl rfl ?_ | refine Go.condT rfl ?_ | refine Go.condPt rfl (fun _ => ?_) (fun _ => ?_) | refine Go.block ?_ | refine Go.unblk ?_ | refine Go.skip ?_ | refine Go.exit rfl ?_ | refine Go.retF rfl ?_ rfl
 all_goals try simp only [show (({ data := #[] } : ByteArray).data.toList : List UInt8) = [] from rfl] at *
 all_goals first
  | (refine out_t ?_; simp [VaP, *]; done)
  | (refine out_f ?_; simp [VaP, *]; done)
  | (refine out_e ?_; simp [VaP, *]; done)
  | (refine out_f ?_; simp [VaP, *]; omega)
  | (refine out_e ?_; simp [VaP, *]; omega)
theorem k49 (v : Va) (hv : v.s.length ≤ 100000) : KOk cF 79 [.agg (encVa v)] (.int .i64 (bif bd (VaP v) then 0 else 10)) := by
 refine KOk.of cF_ok eF.g Try.func79 rfl (Nat.le_of_ble_eq_true rfl) fun w F => ?_
 repeat' first | refine Go.seq ?_ | refine Go.region rfl ?_ | refine Ops.nil ?_ | refine Ops.val eF rfl rfl Zw (by first | exact Z1 | exact Z2 | exact Z5) ?_ | refine Ops.call eF rfl rfl Zw rfl rfl rfl rfl (k52 _ hv) rfl ?_ | refine Ops.boxR eF rfl rfl Zw rfl rfl rfl rfl ?_ | refine Go.condNt rfl (fun _ => ?_) (fun _ => ?_) | refine Go.skip ?_ | refine Go.retF rfl ?_ rfl
 all_goals first | (rw [bd_of (by assumption)]; rfl) | (rw [bd_no (by assumption)]; rfl)
end Go.Px.Fs
end
section
set_option maxHeartbeats 4000000
set_option maxRecDepth 20000
namespace Go.Px.Fs
open Go.Proofs
theorem f53 : Extern.find Try.f140 = some Extern.BytealgCompare.compare := by kernel_rfl
theorem k53 (a b : List UInt8) : KOk cF 140 [sA a, sA b] (.int .i64 (Lib.compareBytes a b)) :=
 KOk.cmp (fn := Try.f140) Try.func140 (by kernel_rfl) (by kernel_rfl) (by kernel_rfl) f53 a b
theorem k51 (a b : List UInt8) : KOk cF 138 [sA a, sA b] (.int .i64 (Lib.compareBytes a b)) := by
 refine KOk.of cF_ok eF.g Try.func138 rfl (Nat.le_of_ble_eq_true rfl) fun w F => ?_
 repeat' first | refine Go.seq ?_ | refine Go.region rfl ?_ | refine Ops.nil ?_ | refine Ops.val eF rfl rfl Zw Z1 ?_ | refine Ops.call eF rfl rfl Zw rfl rfl rfl rfl (k53 _ _) rfl ?_ | refine Go.retF rfl ?_ rfl
 all_goals rfl
theorem k45 (a b : List UInt8) : KOk cF 129 [sA a, sA b] (.int .i64 (Lib.compareBytes a b)) := by
 refine KOk.of cF_ok eF.g Try.func129 rfl (Nat.le_of_ble_eq_true rfl) fun w F => ?_
 repeat' first | refine Go.seq ?_ | refine Go.region rfl ?_ | refine Ops.nil ?_ | refine Ops.val eF rfl rfl Zw Z1 ?_ | refine Ops.call eF rfl rfl Zw rfl rfl rfl rfl (k51 _ _) rfl ?_ | refine Go.retF rfl ?_ rfl
 all_goals rfl
def orI : List Int → Int
 | [] => 0
 | x :: l => if x = 0 then orI l else x
theorem orI_at : ∀ {l : List Int} {i : Nat}, i < l.length → (∀ j, j < i → l.getD j default = 0) → l.getD i default ≠ 0 → orI l = l.getD i default
 | [], i, h, _, _ => by simp at h
 | x :: l, 0, _, _, h => by
  have h : x ≠ 0 := by simpa using h
  simp [orI, h]
 | x :: l, i + 1, h1, h2, h3 => by
  have hx : x = 0 := by simpa using h2 0 (by omega)
  have := orI_at (l := l) (i := i) (by simpa using h1) (fun j hj => by simpa using h2 (j + 1) (by omega)) (by simpa using h3)
  simp only [orI, hx, if_pos]
  rw [this]; rfl
theorem orI_0 : ∀ {l : List Int}, (∀ j, j < l.length → l.getD j default = 0) → orI l = 0
 | [], _ => rfl
 | x :: l, h => by
  have hx : x = 0 := by simpa using h 0 (by simp)
  simp only [orI, hx, if_pos]
  exact orI_0 fun j hj => by simpa using h (j + 1) (by simpa using hj)
theorem k34 (l : List Int) (hl : l.length ≤ 100000) : KOk cF 122 [dsl 1 encI l] (.int .i64 (orI l)) := by
 refine KOk.of cF_ok eF.g Try.func122 rfl (Nat.le_of_ble_eq_true rfl) fun w F => ?_
 repeat' first | refine Go.seq ?_ | refine Go.region rfl ?_ | refine Ops.nil ?_ | refine Ops.val eF rfl rfl Zw (by first | exact Z1 | exact Z6) ?_ | refine Go.block ?_
 refine Go.loop (fun i : Nat => [(8, .int .i64 i), (7, .int .i64 l.length), (6, dsl 1 encI l), (3, .int .i64 0)]) (fun _ => hS) (fun i => i ≤ l.length ∧ ∀ j, j < i → l.getD j default = 0) (fun i => l.length - i) 0 ⟨by omega, fun j hj => by omega⟩ Zt rfl (fun i hP ih => ?_)
 obtain ⟨hi, hn⟩ := hP
 repeat' first | refine Go.seq ?_ | refine Go.region rfl ?_ | refine Ops.nil ?_ | refine Ops.val eF rfl rfl Zw (by first | exact Z1 | exact Z3 | exact Y14 | exact Y24 | exact Z5) ?_ | refine Go.condPt rfl (fun _ => ?_) (fun _ => ?_) | refine Go.condNt rfl (fun _ => ?_) (fun _ => ?_) | refine Go.block ?_ | refine Go.unblk ?_ | refine Go.skip ?_ | refine Go.exit rfl ?_ | refine Go.retF rfl ?_ rfl
 all_goals try simp only [Int.toNat_natCast] at *
 ·rw [orI_at (i := i) (by omega) hn (by assumption)]; rfl
 ·refine Go.to (ih (i + 1) ⟨by omega, fun j hj => ?_⟩ (by omega)) Zt
  rcases lt_succ_cases hj with h | rfl
  ·exact hn j h
  ·assumption
 ·rw [orI_0 (fun j hj => hn j (by omega))]; rfl
end Go.Px.Fs
end
section
set_option maxHeartbeats 4000000
set_option maxRecDepth 20000
namespace Go.Px.Fs
open Go.Proofs
noncomputable def cmpVa (a b : Va) : Int := orI [cmpI a.k b.k, cmpI a.n b.n, Lib.compareBytes a.s b.s]
theorem cmpB_at : ∀ {a b : List UInt8} {i : Nat}, i < a.length → i < b.length → (∀ j, j < i → a.getD j 0 = b.getD j 0) →
  Lib.compareBytes a b = if a.getD i 0 < b.getD i 0 then -1 else if b.getD i 0 < a.getD i 0 then 1 else Lib.compareBytes (a.drop (i + 1)) (b.drop (i + 1))
 | [], _, _, h, _, _ => by simp at h
 | _ :: _, [], _, _, h, _ => by simp at h
 | x :: a, y :: b, 0, _, _, _ => by simp [Lib.compareBytes]
 | x :: a, y :: b, i + 1, h1, h2, h3 => by
  have hx : x = y := by simpa using h3 0 (by omega)
  subst hx
  have := cmpB_at (a := a) (b := b) (i := i) (by simpa using h1) (by simpa using h2) (fun j hj => by simpa using h3 (j + 1) (by omega))
  simp only [Lib.compareBytes, List.getD_cons_succ, List.drop_succ_cons]
  rw [if_neg (by simp [UInt8.lt_irrefl]), if_neg (by simp [UInt8.lt_irrefl]), this]
theorem cmpB_end : ∀ {a b : List UInt8}, (∀ j, j < a.length → j < b.length → a.getD j 0 = b.getD j 0) → Lib.compareBytes a b = if a.length < b.length then -1 else if b.length < a.length then 1 else 0
 | [], [], _ => by simp [Lib.compareBytes]
 | [], _ :: _, _ => by simp [Lib.compareBytes]
 | _ :: _, [], _ => by simp [Lib.compareBytes]
 | x :: a, y :: b, h => by
  have hx : x = y := by simpa using h 0 (by simp) (by simp)
  subst hx
  have := cmpB_end (a := a) (b := b) (fun j h1 h2 => by simpa using h (j + 1) (by simpa using h1) (by simpa using h2))
  simp only [Lib.compareBytes, List.length_cons]
  rw [if_neg (by simp [UInt8.lt_irrefl]), if_neg (by simp [UInt8.lt_irrefl]), this]
  simp
theorem byt_lt {a b : List UInt8} {i : Nat} : byt a i < byt b i ↔ a.getD i 0 < b.getD i 0 := by
 unfold byt
 rw [UInt8.lt_iff_toNat_lt]; omega
theorem byt_eq {a b : List UInt8} {i : Nat} (h1 : ¬ byt a i < byt b i) (h2 : ¬ byt b i < byt a i) : a.getD i 0 = b.getD i 0 := by
 apply UInt8.toNat_inj.1
 unfold byt at h1 h2; omega
theorem orI3 (x y z : Int) : orI [x, y, z] = if x = 0 then (if y = 0 then z else y) else x := by
 simp only [orI]
 by_cases h : z = 0 <;> simp [h]
noncomputable def r77_0 : List Oper := ((drawn (Try.f77.body.getD .skip))[0]?).getD []
theorem dr77_0 : chkOrd cF r77_0 [0, 1, 2, 3, 4, 5, 6, 7, 8] = true := by kernel_rfl
noncomputable def r77_1 : List Oper := ((drawn (Try.f77.body.getD .skip))[1]?).getD []
theorem dr77_1 : chkOrd cF r77_1 [0, 1, 2, 3, 4, 5, 6, 7, 8] = true := by kernel_rfl
theorem k30 (a b : Va) (ha : a.s.length ≤ 100000) (hb : b.s.length ≤ 100000) : KOk cF 77 [.agg (encVa a), .agg (encVa b)] (.int .i64 (cmpVa a b)) := by
 refine KOk.of cF_ok eF.g Try.func77 rfl (Nat.le_of_ble_eq_true rfl) fun w F => ?_
 unfold cmpVa
 rw [orI3]
 repeat' first | refine Go.seq ?_ | refine Go.region rfl ?_ | refine Ops.nil ?_ | refine Ops.val eF rfl rfl Zw (by first | exact Z1 | exact Z3 | exact Z4 | exact Z5) ?_ | refine Ops.boxR eF rfl rfl Zw rfl rfl rfl rfl ?_ | refine Go.condPt rfl (fun _ => ?_) (fun _ => ?_) | refine Go.block ?_ | refine Go.skip ?_ | refine Go.retF rfl ?_ rfl
 ·simp [one, ofV, ofV0, cmpI, *]
 ·simp [one, ofV, ofV0, cmpI, *]
 ·simp [one, ofV, ofV0, cmpI, *]
 ·simp [one, ofV, ofV0, cmpI, *]
 rename_i h1 h2 h3 h4
 have hk : cmpI a.k b.k = 0 := by simp [cmpI, *]
 have hn : cmpI a.n b.n = 0 := by simp [cmpI, *]
 rw [if_pos hk, if_pos hn]
 refine Go.loop (fun i : Nat => [(2, .rptr (encVa a)), (3, .rptr (encVa b)), (5, .int .i64 i)]) (fun _ => hS) (fun i => i ≤ a.s.length ∧ i ≤ b.s.length ∧ ∀ j, j < i → a.s.getD j 0 = b.s.getD j 0) (fun i => a.s.length - i) 0 ⟨by omega, by omega, fun j hj => by omega⟩ Zt rfl (fun i hP ih => ?_)
 obtain ⟨hia, hib, hq⟩ := hP
 repeat' first | refine Go.seq ?_ | refine Go.region rfl ?_ | refine Ops.nil ?_ | refine Ops.val eF rfl rfl Zw (by first | exact Z1 | exact Z2 | exact Z3 | exact Z4 | exact Z5 | exact Z6) ?_ | refine Ops.skip rfl rfl Zn ?_ | refine Ops.gP rfl rfl (fun _ => ?_) (fun _ => ?_) | refine Go.condF rfl ?_ | refine Go.condPt rfl (fun _ => ?_) (fun _ => ?_) | refine Go.block ?_ | refine Go.skip ?_ | refine Go.exit rfl ?_ | refine Go.retF rfl ?_ rfl
 ·refine Go.draw eF hm [] [0, 1, 2, 3, 4, 5, 6, 7, 8] dr77_0 ?_
  repeat' first | refine Dr.nil ?_ | refine Dr.pure rfl rfl rfl rfl Zw (by first | exact Z1 | exact Z3 | exact Z4 | exact Y26 | exact Z5) ?_ | refine Dr.light rfl rfl rfl rfl Zw Z5 ?_
  repeat' first | refine Go.seq ?_ | refine Go.region rfl ?_ | refine Ops.nil ?_ | refine Ops.val eF rfl rfl Zw Z1 ?_ | refine Go.condPt rfl (fun _ => ?_) (fun _ => ?_) | refine Go.skip ?_ | refine Go.retF rfl ?_ rfl
  ·rename_i q1 q2 q3
   have q3 : byt a.s i < byt b.s i := q3
   rw [cmpB_at (i := i) (by omega) (by omega) hq, if_pos (byt_lt.1 q3)]; rfl
  ·refine Go.draw eF hm [] [0, 1, 2, 3, 4, 5, 6, 7, 8] dr77_1 ?_
   repeat' first | refine Dr.nil ?_ | refine Dr.pure rfl rfl rfl rfl Zw (by first | exact Z1 | exact Z3 | exact Z4 | exact Y26 | exact Z5) ?_ | refine Dr.light rfl rfl rfl rfl Zw Z5 ?_
   repeat' first | refine Go.seq ?_ | refine Go.region rfl ?_ | refine Ops.nil ?_ | refine Ops.val eF rfl rfl Zw (by first | exact Z1 | exact Y14) ?_ | refine Go.condPt rfl (fun _ => ?_) (fun _ => ?_) | refine Go.unblk ?_ | refine Go.skip ?_ | refine Go.retF rfl ?_ rfl
   ·rename_i q1 q2 q3 q4
    have q3 : ¬ byt a.s i < byt b.s i := q3
    have q4 : byt b.s i < byt a.s i := q4
    rw [cmpB_at (i := i) (by omega) (by omega) hq, if_neg (fun h => q3 (byt_lt.2 h)), if_pos (byt_lt.1 q4)]; rfl
   ·rename_i q1 q2 q3 q4
    refine Go.to (ih (i + 1) ⟨by omega, by omega, fun j hj => ?_⟩ (by omega)) Zt
    rcases lt_succ_cases hj with h | rfl
    ·exact hq j h
    ·exact byt_eq q3 q4
 all_goals
  rw [cmpB_end (fun j h1 h2 => hq j (by omega))]
  first
   | (rw [if_pos (by omega)]; rfl)
   | (rw [if_neg (by omega), if_pos (by omega)]; rfl)
   | (rw [if_neg (by omega), if_neg (by omega)]; rfl)
end Go.Px.Fs
end
section
set_option maxHeartbeats 4000000
set_option maxRecDepth 20000
namespace Go.Px.Fs
open Go.Proofs
theorem sA_eq {a b : List UInt8} (h : sA a = sA b) : a = b := by
 unfold sA at h
 have h : a.map UInt8.toNat = b.map UInt8.toNat := by injection h
 exact List.map_inj_right (fun x y q => UInt8.toNat_inj.1 q) |>.1 h
theorem int_eq {k : IntKind} {a b : Int} (h : AV.int k a = AV.int k b) : a = b := by injection h
theorem cons_eq {a b : AV} {l m : List AV} (h : a :: l = b :: m) : a = b ∧ l = m := by injection h with h1 h2; exact ⟨h1, h2⟩
theorem pair_eq {x y u v : AV} (h : [x, y] = [u, v]) : x = u ∧ y = v := by
 obtain ⟨h1, h⟩ := cons_eq h
 exact ⟨h1, (cons_eq h).1⟩
noncomputable def n44 : Ent cF := ⟨128, Int × Int, fun p => [.int .i64 p.1, .int .i64 p.2], fun p => .int .i64 (cmpI p.1 p.2), fun p => k44 _ _, fun _ => rfl, fun a b h => by
 have h := pair_eq h; rw [int_eq h.1, int_eq h.2]⟩
noncomputable def n35 : Ent cF := ⟨110, Int × Int, fun p => [.int .i64 p.1, .int .i64 p.2], fun p => .int .i64 (cmpI p.1 p.2), fun p => k35 _ _, fun _ => rfl, fun a b h => by
 have h := pair_eq h; rw [int_eq h.1, int_eq h.2]⟩
noncomputable def n45 : Ent cF := ⟨129, List UInt8 × List UInt8, fun p => [sA p.1, sA p.2], fun p => .int .i64 (Lib.compareBytes p.1 p.2), fun p => k45 _ _, fun _ => rfl, fun a b h => by
 have h := pair_eq h; rw [sA_eq h.1, sA_eq h.2]⟩
noncomputable def r109_0 : List Oper := ((drawn (Try.f109.body.getD .skip))[0]?).getD []
theorem drS109_0 : chkOrdS cF r109_0 15 = true := by kernel_rfl
theorem k36 (a b : Va) : KOk cF 109 [.agg (encVa a), .agg (encVa b)] (.int .i64 (cmpVa a b)) := by
 refine KOk.of cF_ok eF.g Try.func109 rfl (Nat.le_of_ble_eq_true rfl) fun w F => ?_
 unfold cmpVa
 repeat' first | refine Go.seq ?_ | refine Go.region rfl ?_ | refine Ops.nil ?_ | refine Ops.val eF rfl rfl Zw Z1 ?_ | refine Ops.boxR eF rfl rfl Zw rfl rfl rfl rfl ?_
 refine Go.drawS2 eF hm [n44, n35, n45] 15 [0, 1, 2, 3, 4, 5, 6, 7, 8, 9, 10, 11, 12, 13, 14] rfl drS109_0 ?_
 repeat' first | refine Dr.nil ?_ | refine Dr.pure rfl rfl rfl rfl Zw (by first | exact Z4 | exact Z5) ?_ | refine Dr.light rfl rfl rfl rfl Zw Z5 ?_ | refine Dr.call rfl rfl rfl rfl Zw rfl rfl rfl rfl (by first | exact pans_hd (_, _) rfl rfl | exact pans_tl rfl (pans_hd (_, _) rfl rfl) | exact pans_tl rfl (pans_tl rfl (pans_hd (_, _) rfl rfl))) ?_
 all_goals refine Go.suf rfl ?_
 repeat' first | refine Ops.nil ?_ | refine Ops.val eF rfl rfl Zw Z1 ?_ | refine Ops.call eF rfl rfl Zw rfl rfl rfl rfl (k34 [_, _, _] (by simp)) rfl ?_ | refine Ops.data eF rfl rfl Zw rfl (Hop.bslice eF rfl rfl rfl rfl rfl rfl rfl rfl rfl rfl rfl) rfl rfl ?_ | refine Go.retF rfl ?_ rfl
 rfl
def DaP (d : Da) : Prop := (0 ≤ d.e ∧ d.e < 9007199254740992) ∧ (0 ≤ d.a ∧ d.a < 9007199254740992) ∧ VaP d.v ∧ (1 ≤ d.t ∧ d.t ≤ 1099511627776) ∧ d.fr < d.to
end Go.Px.Fs
end
section
set_option maxHeartbeats 4000000
set_option maxRecDepth 20000
namespace Go.Px.Fs
open Go.Proofs
theorem k16 (d : Da) (hd : d.v.s.length ≤ 100000) : KOk cF 24 [.agg (encDa d)] (.bool (bd (DaP d))) := by
 refine KOk.of cF_ok eF.g Try.func24 rfl (Nat.le_of_ble_eq_true rfl) fun w F => ?_
 repeat' first | refine Go.seq ?_ | refine Go.region rfl ?_ | refine Ops.nil ?_ | refine Ops.val eF rfl rfl Zw (by first | exact Z1 | exact Z2 | exact Z3 | exact Z4 | exact Z5) ?_ | refine Ops.skip rfl rfl Zn ?_ | refine Ops.gP rfl rfl (fun _ => ?_) (fun _ => ?_) | refine Ops.call eF rfl rfl Zw rfl rfl rfl rfl (k28 _) rfl ?_ | refine Ops.call eF rfl rfl Zw rfl rfl rfl rfl (k29 d.v hd) rfl ?_ | refine Ops.boxR eF rfl rfl Zw rfl rfl rfl rfl ?_ | refine Go.retF rfl ?_ rfl
 all_goals first
  | (refine out_t ?_; simp [DaP, *]; done)
  | (refine out_f ?_; simp [DaP, *]; done)
  | (refine out_e ?_; simp [DaP, *]; done)
  | (refine out_f ?_; simp [DaP, *]; omega)
  | (refine out_e ?_; simp [DaP, *]; omega)
theorem k42 (d : Da) (hd : d.v.s.length ≤ 100000) : KOk cF 53 [.agg (encDa d)] (.bool (bd (DaP d))) := by
 refine KOk.of cF_ok eF.g Try.func53 rfl (Nat.le_of_ble_eq_true rfl) fun w F => ?_
 by_cases hv : VaP d.v
 ·have e : (bif bd (VaP d.v) then (0 : Int) else 10) = 0 := by rw [bd_of hv]; rfl
  have kv := k49 d.v hd
  rw [e] at kv
  repeat' first | refine Go.seq ?_ | refine Go.region rfl ?_ | refine Ops.nil ?_ | refine Ops.val eF rfl rfl Zw (by first | exact Z1 | exact Z2 | exact Z3 | exact Z4 | exact Z5) ?_ | refine Ops.skip rfl rfl Zn ?_ | refine Ops.gT rfl rfl Za ?_ | refine Ops.gP rfl rfl (fun _ => ?_) (fun _ => ?_) | refine Ops.call eF rfl rfl Zw rfl rfl rfl rfl (kv) rfl ?_ | refine Ops.boxR eF rfl rfl Zw rfl rfl rfl rfl ?_ | refine Go.retF rfl ?_ rfl
  all_goals first
   | (refine out_t ?_; simp [DaP, *]; done)
   | (refine out_f ?_; simp [DaP, *]; done)
   | (refine out_e ?_; simp [DaP, *]; done)
   | (refine out_f ?_; simp [DaP, *]; omega)
   | (refine out_e ?_; simp [DaP, *]; omega)
 ·have e : (bif bd (VaP d.v) then (0 : Int) else 10) = 10 := by rw [bd_no hv]; rfl
  have kv := k49 d.v hd
  rw [e] at kv
  repeat' first | refine Go.seq ?_ | refine Go.region rfl ?_ | refine Ops.nil ?_ | refine Ops.val eF rfl rfl Zw (by first | exact Z1 | exact Z2 | exact Z3 | exact Z4 | exact Z5) ?_ | refine Ops.skip rfl rfl Zn ?_ | refine Ops.gF rfl rfl Za ?_ | refine Ops.gP rfl rfl (fun _ => ?_) (fun _ => ?_) | refine Ops.call eF rfl rfl Zw rfl rfl rfl rfl (kv) rfl ?_ | refine Ops.boxR eF rfl rfl Zw rfl rfl rfl rfl ?_ | refine Go.retF rfl ?_ rfl
  all_goals first
   | (refine out_f ?_; simp [DaP, *]; done)
   | (refine out_e ?_; simp [DaP, *]; done)
   | (exfalso; omega)
theorem k32 (d : Da) (hd : d.v.s.length ≤ 100000) : KOk cF 39 [.agg (encDa d)] (.int .i64 (bif bd (DaP d) then 0 else 40)) := by
 refine KOk.of cF_ok eF.g Try.func39 rfl (Nat.le_of_ble_eq_true rfl) fun w F => ?_
 repeat' first | refine Go.seq ?_ | refine Go.region rfl ?_ | refine Ops.nil ?_ | refine Ops.val eF rfl rfl Zw (by first | exact Z1 | exact Z2 | exact Z5) ?_ | refine Ops.call eF rfl rfl Zw rfl rfl rfl rfl (k42 d hd) rfl ?_ | refine Ops.boxR eF rfl rfl Zw rfl rfl rfl rfl ?_ | refine Go.condNt rfl (fun _ => ?_) (fun _ => ?_) | refine Go.skip ?_ | refine Go.retF rfl ?_ rfl
 all_goals first | (rw [bd_of (by assumption)]; rfl) | (rw [bd_no (by assumption)]; rfl)
end Go.Px.Fs
end
section
namespace Go.Px.Fe
open Go.Proofs Go.Px.Fs
def tbE : List (Nat × TE) := [(1, ⟨.func, 1, 8, .nilfn⟩),
 (2, ⟨.int .i64, 1, 8, .int .i64 0⟩),
 (3, ⟨.int .i64, 1, 8, .int .i64 0⟩),
 (4, ⟨.bool, 1, 1, .bool false⟩),
 (5, ⟨.int .u8, 1, 1, .int .u8 0⟩),
 (9, ⟨.str, 1, 16, .str []⟩),
 (22, ⟨.slice 53, 1, 24, .nilsl⟩),
 (23, ⟨.slice 5, 1, 24, .nilsl⟩),
 (26, ⟨.slice 54, 1, 24, .nilsl⟩),
 (28, ⟨.int .i64, 1, 8, .int .i64 0⟩),
 (40, ⟨.slice 58, 1, 24, .nilsl⟩),
 (53, ⟨.struct [(0, 2), (1, 40)], 2, 32, .agg [.int .i64 0, .nilsl]⟩),
 (54, ⟨.struct [(0, 2), (1, 40)], 2, 32, .agg [.int .i64 0, .nilsl]⟩),
 (56, ⟨.struct [(0, 3), (1, 2), (2, 9)], 3, 32, .agg [.int .i64 0, .int .i64 0, .str []]⟩),
 (58, ⟨.struct [(0, 2), (1, 2), (2, 56), (5, 2), (6, 4), (7, 2), (8, 2)], 9, 80, .agg [.int .i64 0, .int .i64 0, .int .i64 0, .int .i64 0, .str [], .int .i64 0, .bool false, .int .i64 0, .int .i64 0]⟩),
 (62, ⟨.int .u64, 1, 8, .int .u64 0⟩),
 (66, ⟨.ptr 68, 1, 8, .nilptr⟩),
 (68, ⟨.struct [(0, 23), (1, 4)], 2, 32, .agg [.nilsl, .bool false]⟩),
 (76, ⟨.func, 1, 8, .nilfn⟩),
 (77, ⟨.func, 1, 8, .nilfn⟩),
 (95, ⟨.slice 108, 1, 24, .nilsl⟩),
 (103, ⟨.slice 4, 1, 24, .nilsl⟩),
 (104, ⟨.func, 1, 8, .nilfn⟩),
 (105, ⟨.func, 1, 8, .nilfn⟩),
 (108, ⟨.struct [(0, 4), (1, 2), (2, 56)], 5, 48, .agg [.bool false, .int .i64 0, .int .i64 0, .int .i64 0, .str []]⟩),
 (115, ⟨.func, 1, 8, .nilfn⟩),
 (133, ⟨.func, 1, 8, .nilfn⟩),
 (134, ⟨.arr 3 108, 15, 144, .agg [.bool false, .int .i64 0, .int .i64 0, .int .i64 0, .str [], .bool false, .int .i64 0, .int .i64 0, .int .i64 0, .str [], .bool false, .int .i64 0, .int .i64 0, .int .i64 0, .str []]⟩),
 (136, ⟨.slice 2, 1, 24, .nilsl⟩),
 (138, ⟨.ptr 140, 1, 8, .nilptr⟩),
 (140, ⟨.struct [(0, 23), (1, 4)], 2, 32, .agg [.nilsl, .bool false]⟩),
 (141, ⟨.func, 1, 8, .nilfn⟩),
 (142, ⟨.func, 1, 8, .nilfn⟩),
 (155, ⟨.arr 8 5, 8, 8, .agg [.int .u8 0, .int .u8 0, .int .u8 0, .int .u8 0, .int .u8 0, .int .u8 0, .int .u8 0, .int .u8 0]⟩),
 (159, ⟨.func, 1, 8, .nilfn⟩),
 (188, ⟨.slice 3, 1, 24, .nilsl⟩)]
theorem eF : Env cF tbE := ⟨cF_ok, TbP.at_ (tb := tbE) ⟨⟨by kernel_rfl, by kernel_rfl, by kernel_rfl⟩, ⟨by kernel_rfl, by kernel_rfl, by kernel_rfl⟩, ⟨by kernel_rfl, by kernel_rfl, by kernel_rfl⟩, ⟨by kernel_rfl, by kernel_rfl, by kernel_rfl⟩, ⟨by kernel_rfl, by kernel_rfl, by kernel_rfl⟩, ⟨by kernel_rfl, by kernel_rfl, by kernel_rfl⟩, ⟨by kernel_rfl, by kernel_rfl, by kernel_rfl⟩, ⟨by kernel_rfl, by kernel_rfl, by kernel_rfl⟩, ⟨by kernel_rfl, by kernel_rfl, by kernel_rfl⟩, ⟨by kernel_rfl, by kernel_rfl, by kernel_rfl⟩, ⟨by kernel_rfl, by kernel_rfl, by kernel_rfl⟩, ⟨by kernel_rfl, by kernel_rfl, by kernel_rfl⟩, ⟨by kernel_rfl, by kernel_rfl, by kernel_rfl⟩, ⟨by kernel_rfl, by kernel_rfl, by kernel_rfl⟩, ⟨by kernel_rfl, by kernel_rfl, by kernel_rfl⟩, ⟨by kernel_rfl, by kernel_rfl, by kernel_rfl⟩, ⟨by kernel_rfl, by kernel_rfl, by kernel_rfl⟩, ⟨by kernel_rfl, by kernel_rfl, by kernel_rfl⟩, ⟨by kernel_rfl, by kernel_rfl, by kernel_rfl⟩, ⟨by kernel_rfl, by kernel_rfl, by kernel_rfl⟩, ⟨by kernel_rfl, by kernel_rfl, by kernel_rfl⟩, ⟨by kernel_rfl, by kernel_rfl, by kernel_rfl⟩, ⟨by kernel_rfl, by kernel_rfl, by kernel_rfl⟩, ⟨by kernel_rfl, by kernel_rfl, by kernel_rfl⟩, ⟨by kernel_rfl, by kernel_rfl, by kernel_rfl⟩, ⟨by kernel_rfl, by kernel_rfl, by kernel_rfl⟩, ⟨by kernel_rfl, by kernel_rfl, by kernel_rfl⟩, ⟨by kernel_rfl, by kernel_rfl, by kernel_rfl⟩, ⟨by kernel_rfl, by kernel_rfl, by kernel_rfl⟩, ⟨by kernel_rfl, by kernel_rfl, by kernel_rfl⟩, ⟨by kernel_rfl, by kernel_rfl, by kernel_rfl⟩, ⟨by kernel_rfl, by kernel_rfl, by kernel_rfl⟩, ⟨by kernel_rfl, by kernel_rfl, by kernel_rfl⟩, ⟨by kernel_rfl, by kernel_rfl, by kernel_rfl⟩, ⟨by kernel_rfl, by kernel_rfl, by kernel_rfl⟩, ⟨by kernel_rfl, by kernel_rfl, by kernel_rfl⟩, trivial⟩, fun i r q => by rw [show cF.g0.get i = .none from h0_get i] at q; cases q⟩
abbrev Str := List UInt8
structure Pt where
 val : Bool
 n : Int
 v : Va
instance : Inhabited Pt := ⟨⟨false, 0, default⟩⟩
def encPt (p : Pt) : List AV := [.bool p.val, .int .i64 p.n, .int .i64 p.v.k, .int .i64 p.v.n, sA p.v.s]
def ptsA (l : List Pt) : AV := dsl 5 encPt l
def nmP (n : Int) : Pt := ⟨false, n, default⟩
def sdP (v : Va) : Pt := ⟨true, 0, v⟩
def addN (d : Da) : Int := bif d.add then 0 else 1
def ptsE (d : Da) : List Pt := [nmP d.e, nmP d.a, sdP d.v, nmP d.t, nmP (addN d), nmP d.fr, nmP d.to]
noncomputable def cmpPt (a b : Pt) : Int := bif a.val then cmpVa a.v b.v else cmpI a.n b.n
noncomputable def cmpDa (a b : Da) : Int := orI [cmpI a.e b.e, cmpI a.a b.a, cmpVa a.v b.v, cmpI a.t b.t, cmpI (addN a) (addN b), cmpI a.fr b.fr, cmpI a.to b.to]
end Go.Px.Fe
end
section
set_option maxHeartbeats 4000000
set_option maxRecDepth 20000
namespace Go.Px.Fe
open Go.Proofs Go.Px.Fs
attribute [local irreducible] Go.Px.KOk
def encB (b : UInt8) : List AV := [.int .u8 (b.toNat : Int)]
def bysA (l : Str) : AV := dsl 1 encB l
noncomputable def numR (l : Str) (v : Int) : Int := match l with
 | [] => v
 | b :: r => bif bd (1099511627776 < v) then -1 else numR r (256 * v + (b.toNat : Int))
theorem drop_at {α : Type} [Inhabited α] {l : List α} {i : Nat} (h : i < l.length) : l.drop i = l.getD i default :: l.drop (i + 1) := by
 rw [List.drop_eq_getElem_cons h, List.getD_eq_getElem?_getD, List.getElem?_eq_getElem h]; rfl
theorem k33 (l : Str) (hl : l.length ≤ 100000000) : KOk cF 33 [bysA l] (.int .i64 (numR l 0)) := by
 refine KOk.of cF_ok eF.g Try.func33 rfl (Nat.le_of_ble_eq_true rfl) fun w F => ?_
 repeat' first | refine Go.seq ?_ | refine Go.region rfl ?_ | refine Ops.nil ?_ | refine Ops.val eF rfl rfl Zw (by first | exact Z1 | exact Z3 | exact Y14 | exact Y16 | exact Y20 | exact Hop.conv eF rfl rfl rfl rfl rfl (wr_u64 (by omega)) | exact Y24 | exact Y25 | exact Z5 | exact Y31 | exact Z6) ?_ | refine Ops.bytes eF rfl rfl Zw rfl rfl rfl rfl rfl rfl rfl rfl ?_ | refine Ops.bytes eF rfl rfl Zw rfl rfl rfl rfl rfl rfl rfl rfl ?_ | refine Go.condT rfl ?_ | refine Go.condF rfl ?_ | refine Go.condTt rfl Za ?_ | refine Go.condFt rfl Za ?_ | refine Go.condPt rfl (fun _ => ?_) (fun _ => ?_) | refine Go.condNt rfl (fun _ => ?_) (fun _ => ?_) | refine Go.block ?_ | refine Go.unblk ?_ | refine Go.skip ?_ | refine Go.exit rfl ?_ | refine Go.retF rfl ?_ rfl | refine Go.endF rfl ?_ rfl | refine Go.retFm rfl rfl ?_ rfl | refine Go.endFm rfl rfl ?_ rfl | refine Go.retI rfl ?_ | refine Go.retM rfl rfl ?_ ?_ rfl | refine Go.endM rfl rfl ?_ ?_ rfl | refine Go.retY rfl rfl rfl ?_ | refine Go.endY rfl rfl rfl ?_ | refine (Ops.val eF rfl rfl Zw (by exact Hop.ldFG eF rfl rfl rfl rfl rfl rfl rfl (fun _ => rfl) (by omega)) ?_) | refine Go.endI rfl ?_
 refine Go.loop (fun q : Nat × Int => [(0, bysA l), (3, .int .i64 q.2), (4, .int .i64 q.1)]) (fun _ => hS) (fun q => q.1 ≤ l.length ∧ 0 ≤ q.2 ∧ q.2 ≤ 300000000000000 ∧ numR (l.drop q.1) q.2 = numR l 0) (fun q => l.length - q.1) (0, 0) ⟨Nat.zero_le _, by decide, by decide, rfl⟩ Zt rfl (fun q hP ih => ?_)
 obtain ⟨i, v⟩ := q
 obtain ⟨hi, h0, h1, he⟩ := hP
 simp only at hi h0 h1 he ⊢
 by_cases c0 : (i : Int) < (l.length : Int)
 ·have hlt : i < l.length := by omega
  have hb : ((l.getD (i : Int).toNat default).toNat : Int) < 256 := by
   have := (l.getD (i : Int).toNat default).toNat_lt
   omega
  rw [drop_at hlt] at he
  repeat' first | refine Go.seq ?_ | refine Go.region rfl ?_ | refine Ops.nil ?_ | refine Ops.val eF rfl rfl Zw (by first | exact Z1 | exact Z3 | exact Y14 | exact Y16 | exact Y20 | exact Hop.conv eF rfl rfl rfl rfl rfl (wr_u64 (by omega)) | exact Y24 | exact Y25 | exact Z5 | exact Y31 | exact Z6) ?_ | refine Ops.bytes eF rfl rfl Zw rfl rfl rfl rfl rfl rfl rfl rfl ?_ | refine Ops.bytes eF rfl rfl Zw rfl rfl rfl rfl rfl rfl rfl rfl ?_ | refine Go.condT rfl ?_ | refine Go.condF rfl ?_ | refine Go.condTt rfl Za ?_ | refine Go.condFt rfl Za ?_ | refine Go.condPt rfl (fun _ => ?_) (fun _ => ?_) | refine Go.condNt rfl (fun _ => ?_) (fun _ => ?_) | refine Go.block ?_ | refine Go.unblk ?_ | refine Go.skip ?_ | refine Go.exit rfl ?_ | refine Go.retF rfl ?_ rfl | refine Go.endF rfl ?_ rfl | refine Go.retFm rfl rfl ?_ rfl | refine Go.endFm rfl rfl ?_ rfl | refine Go.retI rfl ?_ | refine Go.retM rfl rfl ?_ ?_ rfl | refine Go.endM rfl rfl ?_ ?_ rfl | refine Go.retY rfl rfl rfl ?_ | refine Go.endY rfl rfl rfl ?_ | refine (Ops.val eF rfl rfl Zw (by exact Hop.ldFG eF rfl rfl rfl rfl rfl rfl rfl (fun _ => rfl) (by omega)) ?_) | refine Go.endI rfl ?_
  all_goals try simp only [Int.toNat_natCast] at *
  ·rename_i q
   rw [← he, numR, bd_of q]; rfl
  ·rename_i q
   rw [numR, bd_no q] at he
   exact Go.to (ih (i + 1, 256 * v + ((List.getD l i default).toNat : Int)) ⟨by show i + 1 ≤ _; omega, by show 0 ≤ 256 * v + _; omega, by show 256 * v + _ ≤ _; omega, he⟩ (by show List.length l - (i + 1) < List.length l - i; omega)) Zt
 ·have ei : i = l.length := by omega
  subst ei
  rw [List.drop_length] at he
  repeat' first | refine Go.seq ?_ | refine Go.region rfl ?_ | refine Ops.nil ?_ | refine Ops.val eF rfl rfl Zw (by first | exact Z1 | exact Z3 | exact Y14 | exact Y16 | exact Y20 | exact Hop.conv eF rfl rfl rfl rfl rfl (wr_u64 (by omega)) | exact Y24 | exact Y25 | exact Z5 | exact Y31 | exact Z6) ?_ | refine Ops.bytes eF rfl rfl Zw rfl rfl rfl rfl rfl rfl rfl rfl ?_ | refine Ops.bytes eF rfl rfl Zw rfl rfl rfl rfl rfl rfl rfl rfl ?_ | refine Go.condT rfl ?_ | refine Go.condF rfl ?_ | refine Go.condTt rfl Za ?_ | refine Go.condFt rfl Za ?_ | refine Go.condPt rfl (fun _ => ?_) (fun _ => ?_) | refine Go.condNt rfl (fun _ => ?_) (fun _ => ?_) | refine Go.block ?_ | refine Go.unblk ?_ | refine Go.skip ?_ | refine Go.exit rfl ?_ | refine Go.retF rfl ?_ rfl | refine Go.endF rfl ?_ rfl | refine Go.retFm rfl rfl ?_ rfl | refine Go.endFm rfl rfl ?_ rfl | refine Go.retI rfl ?_ | refine Go.retM rfl rfl ?_ ?_ rfl | refine Go.endM rfl rfl ?_ ?_ rfl | refine Go.retY rfl rfl rfl ?_ | refine Go.endY rfl rfl rfl ?_ | refine (Ops.val eF rfl rfl Zw (by exact Hop.ldFG eF rfl rfl rfl rfl rfl rfl rfl (fun _ => rfl) (by omega)) ?_) | refine Go.endI rfl ?_
  all_goals (rw [← he]; rfl)
end Go.Px.Fe
end
section
set_option maxHeartbeats 4000000
set_option maxRecDepth 20000
namespace Go.Px.Fe
open Go.Proofs Go.Px.Fs
attribute [local irreducible] Go.Px.KOk
def byt (v k : Nat) : UInt8 := UInt8.ofNat (v / 256 ^ k % 256)
def be : Nat → Nat → Str
 | 0, _ => []
 | k + 1, v => byt v k :: be k v
theorem byt_n (v k : Nat) : (byt v k).toNat = v / 256 ^ k % 256 := by
 unfold byt
 rw [UInt8.toNat_ofNat']
 exact Nat.mod_eq_of_lt (Nat.mod_lt _ (by decide))
theorem be_len : ∀ (k v : Nat), (be k v).length = k
 | 0, _ => rfl
 | k + 1, v => by simp [be, be_len k v]
theorem p256 (k : Nat) : (2 : Nat) ^ (8 * k) = 256 ^ k := by rw [Nat.pow_mul]
theorem byt_sh (v k : Nat) : (v : Int) / 2 ^ (8 * k) % 256 = ((byt v k).toNat : Int) := by
 rw [byt_n, ← p256]
 simp only [Int.natCast_emod, Int.natCast_ediv, Int.natCast_pow]; rfl
theorem byt_shI (v k : Nat) : (v : Int) / 2 ^ (8 * (k : Int)).toNat % 256 = ((byt v k).toNat : Int) := by
 rw [show (8 * (k : Int)).toNat = 8 * k by omega]; exact byt_sh v k
theorem m26 (n : Nat) (cs : List AV) (v many : Nat) (hv : v < 18446744073709551616) (hm : many ≤ 8) (hn : n ≤ 900000) : KM cF 26 [.arr 5 1 n cs] [.own 0 n 1, .int .u64 (v : Int), .int .i64 (many : Int)] (.own 0 (n + many) 1) [.arr 5 1 (n + many) (cs ++ (be many v).flatMap encB)] := by
 refine KM.of (N := 1) (ab := [.arr 5 1 n cs]) (gv := []) cF_ok eF.g Try.func26 rfl rfl rfl rfl (Nat.le_of_ble_eq_true rfl) rfl rfl rfl rfl rfl rfl fun w F opn gx => ?_
 repeat' first | refine Go.seq ?_ | refine Go.region rfl ?_ | refine Ops.nil ?_ | refine Ops.val eF rfl rfl Zw (by first | exact Z1 | exact Y15) ?_ | refine Go.block ?_
 refine Go.loop (fun q : Nat × Str => [(0, .own 0 (n + q.2.length) 1), (1, .int .u64 (v : Int)), (7, .int .i64 ((q.1 : Int) - 1))]) (fun q => hq 1 [.arr 5 1 (n + q.2.length) (cs ++ q.2.flatMap encB)]) (fun q => q.1 ≤ many ∧ q.2 ++ be q.1 v = be many v) (fun q => q.1) (many, []) ⟨Nat.le_refl _, rfl⟩ Zt (by simp) (fun q hP ih => ?_)
 obtain ⟨j, l⟩ := q
 obtain ⟨hj, he⟩ := hP
 simp only at hj he ⊢
 have hl : l.length ≤ 8 := by
  have := congrArg List.length he
  simp only [List.length_append, be_len] at this; omega
 cases j with
 | zero =>
  repeat' first | refine Go.seq ?_ | refine Go.region rfl ?_ | refine Ops.nil ?_ | refine Ops.val eF rfl rfl Zw (by first | exact Z1 | exact Z3) ?_ | refine Go.condFt rfl Za ?_ | refine Go.exit rfl ?_ | refine Go.retM rfl rfl ?_ ?_ rfl
  all_goals (rw [be, List.append_nil] at he; subst he; rw [be_len])
  ·rfl
  ·exact ⟨rfl, trivial⟩
 | succ k =>
  simp only [show ((k + 1 : Nat) : Int) - 1 = (k : Int) by omega]
  repeat' first | refine Go.seq ?_ | refine Go.region rfl ?_ | refine Ops.nil ?_ | refine Ops.val eF rfl rfl Zw (by first | exact Hop.addUs rfl rfl rfl (by omega) | exact Hop.addU rfl rfl rfl | exact Hop.subU rfl rfl rfl | exact Hop.mulU rfl rfl rfl | exact Hop.quoU rfl rfl rfl rfl (by omega) | exact Hop.remU rfl rfl rfl rfl (by omega) | exact Hop.xorT rfl rfl rfl (by omega) | exact Hop.orB rfl rfl rfl (by omega) (by omega) (by omega) | exact Hop.shl8 rfl rfl rfl (by omega) | exact Hop.shrN rfl rfl rfl (by omega) (by omega) | exact Hop.conv eF rfl rfl rfl rfl rfl (wr_u64 (by omega)) | exact Hop.convU64 eF rfl rfl rfl rfl rfl | exact Y20 | exact Hop.convI64 eF rfl rfl rfl rfl rfl (by omega) | exact Hop.convU8 eF rfl rfl rfl rfl rfl) ?_ | refine Ops.val eF rfl rfl Zw (by first | exact Z1 | exact Z3 | exact Y15 | exact Y16) ?_ | refine Ops.data eF rfl rfl Zw rfl (Hop.bslice eF rfl rfl rfl rfl rfl rfl rfl rfl rfl rfl rfl) rfl rfl ?_ | refine Ops.appendE eF rfl rfl Zw rfl rfl rfl rfl rfl rfl rfl rfl rfl rfl rfl rfl rfl rfl rfl rfl Zi rfl rfl rfl rfl rfl Zz (by omega) ?_ | refine Go.condPt rfl (fun _ => ?_) (fun _ => ?_) | refine Go.block ?_ | refine Go.unblk ?_ | refine Go.skip ?_ | refine Go.exit rfl ?_ | refine Go.retM rfl rfl ?_ ?_ rfl
  case refine_2.refine_1 => exfalso; omega
  case refine_2.refine_2 => exfalso; omega
  simp only [byt_shI]
  have g := ih (k, l ++ [byt v k]) ⟨by show k ≤ many; omega, by rw [← he, be]; simp⟩ (by show k < k + 1; omega)
  simp only [List.length_append, List.length_cons, List.length_nil, Nat.zero_add, List.flatMap_append, List.flatMap_cons, List.flatMap_nil, List.append_nil, ← Nat.add_assoc, ← List.append_assoc] at g
  exact Go.toQ g rfl eF.g Zt rfl rfl ⟨.inr rfl, trivial⟩ Zl rfl rfl
end Go.Px.Fe
end
section
set_option maxHeartbeats 4000000
set_option maxRecDepth 20000
namespace Go.Px.Fe
open Go.Proofs Go.Px.Fs
attribute [local irreducible] Go.Px.KOk
def numK (n : Int) : Nat := ((n + 9223372036854775808) % 18446744073709551616).toNat
theorem numK_i (n : Int) : ((numK n : Nat) : Int) = (n + 9223372036854775808) % 18446744073709551616 := by unfold numK; omega
theorem numK_lt (n : Int) : numK n < 18446744073709551616 := by unfold numK; omega
theorem k103 (n : Int) : KOk cF 103 [.int .i64 n] (.agg ((be 8 (numK n)).flatMap encB)) := by
 have hk := numK_i n
 have hlt := numK_lt n
 generalize numK n = v at *
 refine KOk.of cF_ok eF.g Try.func103 rfl (Nat.le_of_ble_eq_true rfl) fun w F => ?_
 repeat' first | refine Go.seq ?_ | refine Go.region rfl ?_ | refine Ops.nil ?_ | refine Ops.val eF rfl rfl Zw (by first | exact Hop.addUs rfl rfl rfl (by omega) | exact Hop.addU rfl rfl rfl | exact Hop.subU rfl rfl rfl | exact Hop.mulU rfl rfl rfl | exact Hop.quoU rfl rfl rfl rfl (by omega) | exact Hop.remU rfl rfl rfl rfl (by omega) | exact Hop.xorT rfl rfl rfl (by omega) | exact Hop.orB rfl rfl rfl (by omega) (by omega) (by omega) | exact Hop.shl8 rfl rfl rfl (by omega) | exact Hop.shrN rfl rfl rfl (by omega) (by omega) | exact Hop.conv eF rfl rfl rfl rfl rfl (wr_u64 (by omega)) | exact Hop.convU64 eF rfl rfl rfl rfl rfl | exact Y20 | exact Hop.convI64 eF rfl rfl rfl rfl rfl (by omega) | exact Hop.convU8 eF rfl rfl rfl rfl rfl) ?_ | refine Ops.val eF rfl rfl Zw Z1 ?_ | refine Ops.rowAt eF 0 rfl rfl Zw rfl (Hop.alloc eF rfl rfl rfl) ?_ | refine Ops.rowAt eF 1 rfl rfl Zw rfl (Hop.alloc eF rfl rfl rfl) ?_ | refine Go.block ?_
 refine Go.to (M := [(2, .ptr 0 0), (3, .ptr 1 0), (4, .int .u64 (v : Int)), (9, .int .i64 0)]) ?_ ⟨rfl, rfl, by rw [hk]; show some (AV.int .u64 ((n % 18446744073709551616 + 9223372036854775808) % 18446744073709551616)) = _; refine congrArg (fun z => some (AV.int .u64 z)) ?_; omega, rfl, trivial⟩
 repeat' first | refine Go.seq ?_ | refine Go.region rfl ?_ | refine Ops.nil ?_ | refine Go.loop1 ?_ | refine Go.round ?_ | refine Ops.val eF rfl rfl Zw (by first | exact Hop.addUs rfl rfl rfl (by omega) | exact Hop.addU rfl rfl rfl | exact Hop.subU rfl rfl rfl | exact Hop.mulU rfl rfl rfl | exact Hop.quoU rfl rfl rfl rfl (by omega) | exact Hop.remU rfl rfl rfl rfl (by omega) | exact Hop.xorT rfl rfl rfl (by omega) | exact Hop.orB rfl rfl rfl (by omega) (by omega) (by omega) | exact Hop.shl8 rfl rfl rfl (by omega) | exact Hop.shrN rfl rfl rfl (by omega) (by omega) | exact Hop.conv eF rfl rfl rfl rfl rfl (wr_u64 (by omega)) | exact Hop.convU64 eF rfl rfl rfl rfl rfl | exact Y20 | exact Hop.convI64 eF rfl rfl rfl rfl rfl (by omega) | exact Hop.convU8 eF rfl rfl rfl rfl rfl) ?_ | refine Ops.val eF rfl rfl Zw (Hop.idxP eF rfl rfl rfl rfl rfl rfl (by omega)) ?_ | refine Ops.val eF rfl rfl Zw (by first | exact Z1 | exact Z3 | exact Y14 | exact Y15 | exact Y16 | exact Z5) ?_ | refine Ops.unit eF rfl Zw (Hop.store eF rfl rfl rfl rfl rfl rfl) (ArrKeep.put rfl) ?_ | refine Go.condTt rfl Za ?_ | refine Go.condFt rfl Za ?_ | refine Go.block ?_ | refine Go.unblk ?_ | refine Go.skip ?_ | refine Go.exit rfl ?_
 exact Go.retFc [_] rfl ⟨Hop.ldPG eF rfl rfl rfl rfl rfl rfl rfl, trivial⟩ (by simp only [be, List.flatMap_cons, List.flatMap_nil, encB, ← byt_sh]; rfl) rfl
theorem k80 (n : Int) : KOk cF 80 [.int .i64 n] (bysA (be 8 (numK n))) := by
 have k1 := k103 n
 refine KOk.of cF_ok eF.g Try.func80 rfl (Nat.le_of_ble_eq_true rfl) fun w F => ?_
 repeat' first | refine Go.seq ?_ | refine Go.region rfl ?_ | refine Ops.nil ?_ | refine Ops.val eF rfl rfl Zw Z1 ?_ | refine Ops.call eF rfl rfl Zw rfl rfl rfl rfl (k1) rfl ?_ | refine Ops.rowAt eF 0 rfl rfl Zw rfl (Hop.alloc eF rfl rfl rfl) ?_ | refine Ops.unit eF rfl Zw (Hop.store eF rfl rfl rfl rfl rfl rfl) (ArrKeep.put rfl) ?_
 refine Ops.val eF rfl rfl (Want.no rfl) (Hop.sliceP eF rfl rfl rfl rfl rfl rfl rfl) ?_
 refine Ops.sub (M := [(6, .sl 0 0 8 (some 8) 1)]) ⟨rfl, trivial⟩ ?_
 refine Ops.change (Chg.frzR 6 (cs := (be 8 (numK n)).flatMap encB) rfl rfl rfl (dats_flat (fun _ => rfl) _) (by repeat' first | exact trivial | refine And.intro ?_ ?_ | exact .inr trivial | exact .inr rfl | exact .inl rfl) rfl rfl rfl) ?_
 repeat' first | refine Ops.nil ?_ | refine Ops.val eF rfl rfl Zw Z1 ?_ | refine Go.retF rfl ?_ rfl
 rfl
end Go.Px.Fe
end
section
set_option maxHeartbeats 4000000
set_option maxRecDepth 20000
namespace Go.Px.Fe
open Go.Proofs Go.Px.Fs
attribute [local irreducible] Go.Px.KOk
def valF (v : Nat) : Str → Nat
 | [] => v
 | c :: r => valF (v * 256 + c.toNat) r
def valN (l : Str) : Nat := valF 0 l
theorem valF_app (v : Nat) : ∀ a b : Str, valF v (a ++ b) = valF (valF v a) b
 | [], b => rfl
 | c :: a, b => valF_app (v * 256 + c.toNat) a b
theorem valN_snoc (a : Str) (c : UInt8) : valN (a ++ [c]) = valN a * 256 + c.toNat := by unfold valN; rw [valF_app]; rfl
theorem valF_lt (v : Nat) : ∀ l : Str, valF v l < (v + 1) * 256 ^ l.length
 | [] => by simp [valF]
 | c :: r => by
  have ih := valF_lt (v * 256 + c.toNat) r
  have hc := c.toNat_lt
  simp only [valF, List.length_cons, Nat.pow_succ]
  refine Nat.lt_of_lt_of_le ih ?_
  rw [Nat.mul_comm (256 ^ r.length) 256, ← Nat.mul_assoc]
  exact Nat.mul_le_mul_right _ (by omega)
theorem valN_lt (l : Str) : valN l < 256 ^ l.length := by
 have := valF_lt 0 l
 simpa [valN] using this
theorem valN_lt7 {l : Str} (h : l.length ≤ 7) : valN l < 72057594037927936 := by
 refine Nat.lt_of_lt_of_le (valN_lt l) ?_
 exact Nat.pow_le_pow_right (n := 256) (by decide) h
theorem valN_lt8 {l : Str} (h : l.length ≤ 8) : valN l < 18446744073709551616 := by
 refine Nat.lt_of_lt_of_le (valN_lt l) ?_
 exact Nat.pow_le_pow_right (n := 256) (by decide) h
def num8 (l : Str) : Int := sgn (((valN l : Nat) + 9223372036854775808 : Int) % 18446744073709551616)
theorem take_at {l : Str} {i : Nat} (h : i < l.length) : l.take (i + 1) = l.take i ++ [l.getD i default] := by
 rw [List.take_add_one, List.getElem?_eq_getElem h, List.getD_eq_getElem?_getD, List.getElem?_eq_getElem h]; rfl
theorem k89 (b : Str) (hb : 8 ≤ b.length) (hl : b.length ≤ 100000000) : KOk cF 89 [bysA b] (.int .i64 (num8 (b.take 8))) := by
 refine KOk.of cF_ok eF.g Try.func89 rfl (Nat.le_of_ble_eq_true rfl) fun w F => ?_
 repeat' first | refine Go.seq ?_ | refine Go.region rfl ?_ | refine Ops.nil ?_ | refine Ops.val eF rfl rfl Zw (by first | exact Z1 | exact Z3 | exact Y14 | exact Y15 | exact Y16 | exact Y20 | exact Hop.conv eF rfl rfl rfl rfl rfl (wr_u64 (by omega)) | exact Y24 | exact Y25 | exact Z5 | exact Y31) ?_ | refine Ops.bytes eF rfl rfl Zw rfl rfl rfl rfl rfl rfl rfl rfl ?_ | refine Ops.bytes eF rfl rfl Zw rfl rfl rfl rfl rfl rfl rfl rfl ?_ | refine Go.condT rfl ?_ | refine Go.condF rfl ?_ | refine Go.condTt rfl Za ?_ | refine Go.condFt rfl Za ?_ | refine Go.condPt rfl (fun _ => ?_) (fun _ => ?_) | refine Go.condNt rfl (fun _ => ?_) (fun _ => ?_) | refine Go.block ?_ | refine Go.unblk ?_ | refine Go.skip ?_ | refine Go.exit rfl ?_ | refine Go.retF rfl ?_ rfl | refine Go.endF rfl ?_ rfl | refine Go.retFm rfl rfl ?_ rfl | refine Go.endFm rfl rfl ?_ rfl | refine Go.retI rfl ?_ | refine Go.retM rfl rfl ?_ ?_ rfl | refine Go.endM rfl rfl ?_ ?_ rfl | refine Go.retY rfl rfl rfl ?_ | refine Go.endY rfl rfl rfl ?_ | refine (Ops.val eF rfl rfl Zw (by exact Hop.ldFG eF rfl rfl rfl rfl rfl rfl rfl (fun _ => rfl) (by omega)) ?_) | refine Go.endI rfl ?_
 refine Go.loop (fun i : Nat => [(0, bysA b), (3, .int .u64 (valN (b.take i) : Nat)), (4, .int .i64 i)]) (fun _ => hS) (fun i => i ≤ 8) (fun i => 8 - i) 0 (Nat.zero_le _) Zt rfl (fun i hi ih => ?_)
 have hv : (b.take i).length ≤ i := by rw [List.length_take]; omega
 have hv8 := valN_lt8 (l := b.take i) (by omega)
 by_cases c0 : (i : Int) < 8
 ·have hlt : i < b.length := by omega
  have hv7 := valN_lt7 (l := b.take i) (by omega)
  have g := ih (i + 1) (by omega) (by omega)
  rw [take_at hlt, valN_snoc] at g
  have hc := (b.getD (i : Int).toNat default).toNat_lt
  repeat' first | refine Go.seq ?_ | refine Go.region rfl ?_ | refine Ops.nil ?_ | refine Ops.val eF rfl rfl Zw (by first | exact Hop.addUs rfl rfl rfl (by omega) | exact Hop.addU rfl rfl rfl | exact Hop.subU rfl rfl rfl | exact Hop.mulU rfl rfl rfl | exact Hop.quoU rfl rfl rfl rfl (by omega) | exact Hop.remU rfl rfl rfl rfl (by omega) | exact Hop.xorT rfl rfl rfl (by omega) | exact Hop.orB rfl rfl rfl (by omega) (by omega) (by omega) | exact Hop.shl8 rfl rfl rfl (by omega) | exact Hop.shrN rfl rfl rfl (by omega) (by omega) | exact Hop.conv eF rfl rfl rfl rfl rfl (wr_u64 (by omega)) | exact Hop.convU64 eF rfl rfl rfl rfl rfl | exact Y20 | exact Hop.convI64 eF rfl rfl rfl rfl rfl (by omega) | exact Hop.convU8 eF rfl rfl rfl rfl rfl) ?_ | refine Ops.val eF rfl rfl Zw (by first | exact Z1 | exact Z3 | exact Y14 | exact Y15 | exact Y16 | exact Y20 | exact Hop.conv eF rfl rfl rfl rfl rfl (wr_u64 (by omega)) | exact Y24 | exact Y25 | exact Z5 | exact Y31) ?_ | refine Ops.bytes eF rfl rfl Zw rfl rfl rfl rfl rfl rfl rfl rfl ?_ | refine Ops.bytes eF rfl rfl Zw rfl rfl rfl rfl rfl rfl rfl rfl ?_ | refine Go.condT rfl ?_ | refine Go.condF rfl ?_ | refine Go.condTt rfl Za ?_ | refine Go.condFt rfl Za ?_ | refine Go.condPt rfl (fun _ => ?_) (fun _ => ?_) | refine Go.condNt rfl (fun _ => ?_) (fun _ => ?_) | refine Go.block ?_ | refine Go.unblk ?_ | refine Go.skip ?_ | refine Go.exit rfl ?_ | refine Go.retF rfl ?_ rfl | refine Go.endF rfl ?_ rfl | refine Go.retFm rfl rfl ?_ rfl | refine Go.endFm rfl rfl ?_ rfl | refine Go.retI rfl ?_ | refine Go.retM rfl rfl ?_ ?_ rfl | refine Go.endM rfl rfl ?_ ?_ rfl | refine Go.retY rfl rfl rfl ?_ | refine Go.endY rfl rfl rfl ?_ | refine (Ops.val eF rfl rfl Zw (by exact Hop.ldFG eF rfl rfl rfl rfl rfl rfl rfl (fun _ => rfl) (by omega)) ?_) | refine Go.endI rfl ?_
  try simp only [Int.toNat_natCast] at *
  refine Go.to g ⟨rfl, ?_, rfl, trivial⟩
  show some (AV.int .u64 (((valN (b.take i) : Nat) : Int) * 256 % 18446744073709551616 + ((b.getD i default).toNat : Int))) = _
  refine congrArg (fun z => some (AV.int .u64 z)) ?_
  omega
 ·have ei : i = 8 := by omega
  subst ei
  repeat' first | refine Go.seq ?_ | refine Go.region rfl ?_ | refine Ops.nil ?_ | refine Ops.val eF rfl rfl Zw (by first | exact Hop.addUs rfl rfl rfl (by omega) | exact Hop.addU rfl rfl rfl | exact Hop.subU rfl rfl rfl | exact Hop.mulU rfl rfl rfl | exact Hop.quoU rfl rfl rfl rfl (by omega) | exact Hop.remU rfl rfl rfl rfl (by omega) | exact Hop.xorT rfl rfl rfl (by omega) | exact Hop.orB rfl rfl rfl (by omega) (by omega) (by omega) | exact Hop.shl8 rfl rfl rfl (by omega) | exact Hop.shrN rfl rfl rfl (by omega) (by omega) | exact Hop.conv eF rfl rfl rfl rfl rfl (wr_u64 (by omega)) | exact Hop.convU64 eF rfl rfl rfl rfl rfl | exact Y20 | exact Hop.convI64 eF rfl rfl rfl rfl rfl (by omega) | exact Hop.convU8 eF rfl rfl rfl rfl rfl) ?_ | refine Ops.val eF rfl rfl Zw (by first | exact Z1 | exact Z3 | exact Y14 | exact Y15 | exact Y16 | exact Y20 | exact Hop.conv eF rfl rfl rfl rfl rfl (wr_u64 (by omega)) | exact Y24 | exact Y25 | exact Z5 | exact Y31) ?_ | refine Ops.bytes eF rfl rfl Zw rfl rfl rfl rfl rfl rfl rfl rfl ?_ | refine Ops.bytes eF rfl rfl Zw rfl rfl rfl rfl rfl rfl rfl rfl ?_ | refine Go.condT rfl ?_ | refine Go.condF rfl ?_ | refine Go.condTt rfl Za ?_ | refine Go.condFt rfl Za ?_ | refine Go.condPt rfl (fun _ => ?_) (fun _ => ?_) | refine Go.condNt rfl (fun _ => ?_) (fun _ => ?_) | refine Go.block ?_ | refine Go.unblk ?_ | refine Go.skip ?_ | refine Go.exit rfl ?_ | refine Go.retF rfl ?_ rfl | refine Go.endF rfl ?_ rfl | refine Go.retFm rfl rfl ?_ rfl | refine Go.endFm rfl rfl ?_ rfl | refine Go.retI rfl ?_ | refine Go.retM rfl rfl ?_ ?_ rfl | refine Go.endM rfl rfl ?_ ?_ rfl | refine Go.retY rfl rfl rfl ?_ | refine Go.endY rfl rfl rfl ?_ | refine (Ops.val eF rfl rfl Zw (by exact Hop.ldFG eF rfl rfl rfl rfl rfl rfl rfl (fun _ => rfl) (by omega)) ?_) | refine Go.endI rfl ?_
  unfold num8
  show AV.int .i64 (sgn ((((valN (b.take 8) : Nat) : Int) - 9223372036854775808) % 18446744073709551616)) = _
  refine congrArg (fun z => AV.int .i64 (sgn z)) ?_
  omega
end Go.Px.Fe
end
