/- Parts of the proof in YthaagimdjfkjpaaGreatDoorXFin: DeF, DuA, DuW, DeK, DeG. -/
import Derived.Test.YthaagimdjfkjpaaGreatDoorXLb
import Derived.Test.YthaagimdjfkjpaaGreatDoorXK4
set_option linter.unusedVariables false
set_option linter.unusedSimpArgs false
section
set_option maxHeartbeats 4000000
set_option maxRecDepth 20000
namespace Go.Px.De
open Go.Proofs Go.Px.Ds
attribute [local irreducible] Go.Px.KOk
theorem bd_congr {p q : Prop} (h : p ↔ q) : bd p = bd q := by rw [propext h]
def dasA (l : List Da) : AV := dsl 9 encDa l
structure Tx where
 t : Int
 l : List Da
instance : Inhabited Tx := ⟨⟨0, []⟩⟩
def encTx (x : Tx) : List AV := [.int .i64 x.t, dasA x.l]
def txsA (l : List Tx) : AV := dsl 2 encTx l
def okD (x : Tx) (k : Nat) : Prop := (x.l.getD k default).t = x.t ∧ DaP (x.l.getD k default) ∧ (k = 0 ∨ cmpDa (x.l.getD (k - 1) default) (x.l.getD k default) < 0)
def hdP (l : List Tx) (i : Nat) : Prop := 1 ≤ (l.getD i default).t ∧ (l.getD i default).t ≤ 1099511627776 ∧ (i = 0 ∨ (l.getD i default).t - 1 = (l.getD (i - 1) default).t)
def okUp (l : List Tx) (i k : Nat) : Prop := hdP l i ∧ ∀ j, j < k → okD (l.getD i default) j
def okTx (l : List Tx) (i : Nat) : Prop := okUp l i (l.getD i default).l.length
theorem okUp_zero (l : List Tx) (i : Nat) : okUp l i 0 ↔ hdP l i := ⟨fun h => h.1, fun h => ⟨h, fun j hj => absurd hj (Nat.not_lt_zero _)⟩⟩
theorem okUp_succ (l : List Tx) (i k : Nat) : okUp l i (k + 1) ↔ okUp l i k ∧ okD (l.getD i default) k := by
 constructor
 ·intro h
  exact ⟨⟨h.1, fun j hj => h.2 j (by omega)⟩, h.2 k (by omega)⟩
 ·intro h
  exact ⟨h.1.1, fun j hj => by rcases Nat.lt_succ_iff_lt_or_eq.1 hj with r | r; exact h.1.2 j r; subst r; exact h.2⟩
noncomputable def itemT (l : List Tx) (i : Nat) : List AV := [.agg (encTx (l.getD i default)), .bool (bd (okTx l i))]
noncomputable def itemsT (l : List Tx) : List (List AV) := (List.range l.length).map (itemT l)
theorem itemsT_at {l : List Tx} {j : Nat} {v : List AV} (h : (itemsT l)[j]? = some v) : j < l.length ∧ v = itemT l j := by
 unfold itemsT at h
 by_cases hj : j < l.length
 ·rw [List.getElem?_map, List.getElem?_range hj] at h
  exact ⟨hj, (Option.some.inj h).symm⟩
 ·rw [List.getElem?_eq_none (by simp; omega)] at h; cases h
theorem itemsT_of {l : List Tx} {j : Nat} (hj : j < l.length) : (itemsT l)[j]? = some (itemT l j) := by
 unfold itemsT
 rw [List.getElem?_map, List.getElem?_range hj]; rfl
theorem k35t (l : List Tx) : KOk cF 31 [txsA l] (.fn (.func 39) [] [.rptr [txsA l]]) := by
 refine KOk.of cF_ok eF.g Tryz.func31 rfl (Nat.le_of_ble_eq_true rfl) fun w F => ?_
 repeat' first | refine Go.seq ?_ | refine Go.region rfl ?_ | refine Ops.nil ?_ | refine Ops.val eF rfl rfl Zw (by first | exact Z1 | exact Y38) ?_ | refine Ops.boxR eF rfl rfl Zw rfl rfl rfl rfl ?_ | refine Go.retF rfl ?_ rfl
 all_goals rfl
noncomputable def r39_0 : List Oper := ((drawn (Tryz.f39.body.getD .skip))[0]?).getD []
theorem dr39_0 : chkOrd cF r39_0 [0, 1, 2, 3, 4, 5, 6, 7, 8, 9, 10, 11, 12, 13, 14, 15, 16, 17, 18, 19, 20, 21, 22, 23, 24] = true := by kernel_rfl
noncomputable def r39_1 : List Oper := ((drawn (Tryz.f39.body.getD .skip))[1]?).getD []
theorem dr39_1 : chkOrd cF r39_1 [0, 1, 2, 3, 4, 5, 6, 7, 8, 9, 10, 11, 12, 13, 14, 15, 16, 17, 18, 19, 20, 21, 22, 23, 24, 25, 26, 27, 28] = true := by kernel_rfl
theorem it64 (l : List Tx) (hl : l.length ≤ 1000000) (hd : ∀ i, (l.getD i default).l.length ≤ 1000000) (hs : ∀ i k, ((l.getD i default).l.getD k default).v.s.length ≤ 100000) : KIt cF 39 [.rptr [txsA l]] (itemsT l) := by
 refine KIt.of cF_ok eF.g Tryz.func39 rfl rfl fun w F opn G gx hG => ?_
 repeat' first | refine Go.seq ?_ | refine Go.region rfl ?_ | refine Ops.nil ?_ | refine Ops.val eF rfl rfl Zw (by first | exact Z1 | exact Z5 | exact Z6) ?_ | refine Go.block ?_
 refine Go.loop (fun i : Nat => [(0, .fn (.yield 1) [] []), (1, .rptr [txsA l]), (8, txsA l), (9, .int .i64 l.length), (10, .int .i64 i)]) (fun i => hq 2 [.arr 0 i 0 [], .none]) (fun i => i ≤ l.length) (fun i => l.length - i) 0 (Nat.zero_le _) Zt rfl (fun i hi ih => ?_)
 by_cases c0 : (i : Int) < (l.length : Int)
 ·have hlt : i < l.length := by omega
  have hil : i < (itemsT l).length := by simpa [itemsT] using hlt
  repeat' first | refine Go.seq ?_ | refine Go.region rfl ?_ | refine Ops.nil ?_ | refine Ops.val eF rfl rfl Zw (by first | exact Z1 | exact Z3 | exact Y24 | exact Z5) ?_ | refine Ops.rowAt eF 2 rfl rfl Zw rfl (Hop.alloc eF rfl rfl rfl) ?_ | refine Ops.unit eF rfl Zw (Hop.store eF rfl rfl rfl rfl rfl rfl) (ArrKeep.put rfl) ?_ | refine Go.condTt rfl Za ?_ | refine Go.block ?_ | refine Go.skip ?_
  refine Go.toHQ (N := 3) (bs := [.arr 0 i 0 [], .none, .row ⟨38, 2, .leaf, encTx (l.getD i default), none⟩]) (L' := [(0, .fn (.yield 1) [] []), (1, .rptr [txsA l]), (3, .int .i64 i), (4, .ptr 2 0), (8, txsA l), (9, .int .i64 l.length), (10, .int .i64 i)]) ?_ rfl eF.g Zt rfl rfl Zg Zl rfl rfl
  have e1 : ((i : Int) - 1).toNat = i - 1 := by omega
  refine Go.mid [(0, .fn (.yield 1) [] []), (1, .rptr [txsA l]), (3, .int .i64 i), (4, .ptr 2 0), (5, .bool (bd (hdP l i))), (8, txsA l), (9, .int .i64 l.length), (10, .int .i64 i)] (hq 3 [.arr 0 i 0 [], .none, .row ⟨38, 2, .leaf, encTx (l.getD i default), none⟩]) ?_ ?_
  ·by_cases i0 : (i : Int) = 0
   ·refine Go.draw eF hm [] [0, 1, 2, 3, 4, 5, 6, 7, 8, 9, 10, 11, 12, 13, 14, 15, 16, 17, 18, 19, 20, 21, 22, 23, 24] dr39_0 ?_
    repeat' first | refine Dr.nil ?_ | refine Dr.pure rfl rfl rfl rfl Zw (by first | exact Z1 | exact Z2 | exact Z3 | exact Y15 | exact Z4 | exact Y24 | exact Z5) ?_ | refine Dr.light rfl rfl rfl rfl Zw Z5 ?_ | refine Dr.skip rfl rfl rfl Zn ?_ | refine Dr.gP rfl rfl (fun _ => ?_) (fun _ => ?_)
    repeat' first | refine Go.seq ?_ | refine Go.region rfl ?_ | refine Ops.nil ?_ | refine Ops.val eF rfl rfl Zw (by first | exact Z1 | exact Z2 | exact Z3 | exact Y12 | exact Y14 | exact Y15 | exact Z4 | exact Y24 | exact Y25 | exact Z5 | exact Y31 | exact Z6) ?_ | refine Ops.skip rfl rfl Zn ?_ | refine Ops.skipU rfl Zn ?_ | refine Ops.gT rfl rfl Za ?_ | refine Ops.gF rfl rfl Za ?_ | refine Ops.gP rfl rfl (fun _ => ?_) (fun _ => ?_) | refine Ops.gN rfl rfl (fun _ => ?_) (fun _ => ?_) | refine Ops.rowAt eF 0 rfl rfl Zw rfl (Hop.boxC rfl rfl rfl) ?_ | refine Ops.rowAt eF 1 rfl rfl Zw rfl (Hop.boxC rfl rfl rfl) ?_ | refine Ops.rowAt eF 2 rfl rfl Zw rfl (Hop.boxC rfl rfl rfl) ?_ | refine Ops.rowAt eF 3 rfl rfl Zw rfl (Hop.boxC rfl rfl rfl) ?_ | refine Ops.rowAt eF 4 rfl rfl Zw rfl (Hop.boxC rfl rfl rfl) ?_ | refine Ops.rowAt eF 5 rfl rfl Zw rfl (Hop.boxC rfl rfl rfl) ?_ | refine Ops.rowAt eF 6 rfl rfl Zw rfl (Hop.boxC rfl rfl rfl) ?_ | refine Ops.rowAt eF 7 rfl rfl Zw rfl (Hop.boxC rfl rfl rfl) ?_ | refine Ops.rowAt eF 8 rfl rfl Zw rfl (Hop.boxC rfl rfl rfl) ?_ | refine Ops.rowAt eF 0 rfl rfl Zw rfl (Hop.alloc eF rfl rfl rfl) ?_ | refine Ops.rowAt eF 1 rfl rfl Zw rfl (Hop.alloc eF rfl rfl rfl) ?_ | refine Ops.rowAt eF 2 rfl rfl Zw rfl (Hop.alloc eF rfl rfl rfl) ?_ | refine Ops.rowAt eF 3 rfl rfl Zw rfl (Hop.alloc eF rfl rfl rfl) ?_ | refine Ops.rowAt eF 4 rfl rfl Zw rfl (Hop.alloc eF rfl rfl rfl) ?_ | refine Ops.rowAt eF 5 rfl rfl Zw rfl (Hop.alloc eF rfl rfl rfl) ?_ | refine Ops.rowAt eF 6 rfl rfl Zw rfl (Hop.alloc eF rfl rfl rfl) ?_ | refine Ops.rowAt eF 7 rfl rfl Zw rfl (Hop.alloc eF rfl rfl rfl) ?_ | refine Ops.rowAt eF 8 rfl rfl Zw rfl (Hop.alloc eF rfl rfl rfl) ?_ | refine Ops.unit eF rfl Zw (Hop.store eF rfl rfl rfl rfl rfl rfl) (ArrKeep.put rfl) ?_ | refine Go.condT rfl ?_ | refine Go.condF rfl ?_ | refine Go.condTt rfl Za ?_ | refine Go.condFt rfl Za ?_ | refine Go.condPt rfl (fun _ => ?_) (fun _ => ?_) | refine Go.condNt rfl (fun _ => ?_) (fun _ => ?_) | refine Go.block ?_ | refine Go.unblk ?_ | refine Go.skip ?_ | refine Go.exit rfl ?_ | refine Go.retF rfl ?_ rfl | refine Go.endF rfl ?_ rfl | refine Go.retFm rfl rfl ?_ rfl | refine Go.endFm rfl rfl ?_ rfl | refine Go.retI rfl ?_ | refine Go.retM rfl rfl ?_ ?_ rfl | refine Go.endM rfl rfl ?_ ?_ rfl | refine Go.retY rfl rfl rfl ?_ | refine Go.endY rfl rfl rfl ?_ | refine (Ops.val eF rfl rfl Zw (by exact Hop.ldFG eF rfl rfl rfl rfl rfl rfl rfl (fun _ => rfl) (by omega)) ?_) | refine Go.endI rfl ?_
    all_goals try simp only [Int.toNat_natCast] at *
    all_goals try (exfalso; omega)
    all_goals refine Go.midE ⟨rfl, rfl, rfl, rfl, congrArg (fun b => some (AV.bool b)) (?_ : _ = bd (hdP l i)), rfl, rfl, rfl, trivial⟩
    all_goals first
     | exact (bd_of ⟨by assumption, by assumption, .inl (by omega)⟩).symm
     | exact (bd_no fun h => by obtain ⟨h1, h2, _⟩ := h; omega).symm
   ·have hi1 : 0 ≤ (i : Int) - 1 ∧ (i : Int) - 1 < l.length := by omega
    refine Go.draw eF hm [] [0, 1, 2, 3, 4, 5, 6, 7, 8, 9, 10, 11, 12, 13, 14, 15, 16, 17, 18, 19, 20, 21, 22, 23, 24] dr39_0 ?_
    repeat' first | refine Dr.nil ?_ | refine Dr.pure rfl rfl rfl rfl Zw (by first | exact Z1 | exact Z2 | exact Z3 | exact Y15 | exact Z4 | exact Y24 | exact Z5) ?_ | refine Dr.light rfl rfl rfl rfl Zw Z5 ?_ | refine Dr.skip rfl rfl rfl Zn ?_ | refine Dr.gP rfl rfl (fun _ => ?_) (fun _ => ?_)
    repeat' first | refine Go.seq ?_ | refine Go.region rfl ?_ | refine Ops.nil ?_ | refine Ops.val eF rfl rfl Zw (by first | exact Z1 | exact Z2 | exact Z3 | exact Y12 | exact Y14 | exact Y15 | exact Z4 | exact Y24 | exact Y25 | exact Z5 | exact Y31 | exact Z6) ?_ | refine Ops.skip rfl rfl Zn ?_ | refine Ops.skipU rfl Zn ?_ | refine Ops.gT rfl rfl Za ?_ | refine Ops.gF rfl rfl Za ?_ | refine Ops.gP rfl rfl (fun _ => ?_) (fun _ => ?_) | refine Ops.gN rfl rfl (fun _ => ?_) (fun _ => ?_) | refine Ops.rowAt eF 0 rfl rfl Zw rfl (Hop.boxC rfl rfl rfl) ?_ | refine Ops.rowAt eF 1 rfl rfl Zw rfl (Hop.boxC rfl rfl rfl) ?_ | refine Ops.rowAt eF 2 rfl rfl Zw rfl (Hop.boxC rfl rfl rfl) ?_ | refine Ops.rowAt eF 3 rfl rfl Zw rfl (Hop.boxC rfl rfl rfl) ?_ | refine Ops.rowAt eF 4 rfl rfl Zw rfl (Hop.boxC rfl rfl rfl) ?_ | refine Ops.rowAt eF 5 rfl rfl Zw rfl (Hop.boxC rfl rfl rfl) ?_ | refine Ops.rowAt eF 6 rfl rfl Zw rfl (Hop.boxC rfl rfl rfl) ?_ | refine Ops.rowAt eF 7 rfl rfl Zw rfl (Hop.boxC rfl rfl rfl) ?_ | refine Ops.rowAt eF 8 rfl rfl Zw rfl (Hop.boxC rfl rfl rfl) ?_ | refine Ops.rowAt eF 0 rfl rfl Zw rfl (Hop.alloc eF rfl rfl rfl) ?_ | refine Ops.rowAt eF 1 rfl rfl Zw rfl (Hop.alloc eF rfl rfl rfl) ?_ | refine Ops.rowAt eF 2 rfl rfl Zw rfl (Hop.alloc eF rfl rfl rfl) ?_ | refine Ops.rowAt eF 3 rfl rfl Zw rfl (Hop.alloc eF rfl rfl rfl) ?_ | refine Ops.rowAt eF 4 rfl rfl Zw rfl (Hop.alloc eF rfl rfl rfl) ?_ | refine Ops.rowAt eF 5 rfl rfl Zw rfl (Hop.alloc eF rfl rfl rfl) ?_ | refine Ops.rowAt eF 6 rfl rfl Zw rfl (Hop.alloc eF rfl rfl rfl) ?_ | refine Ops.rowAt eF 7 rfl rfl Zw rfl (Hop.alloc eF rfl rfl rfl) ?_ | refine Ops.rowAt eF 8 rfl rfl Zw rfl (Hop.alloc eF rfl rfl rfl) ?_ | refine Ops.unit eF rfl Zw (Hop.store eF rfl rfl rfl rfl rfl rfl) (ArrKeep.put rfl) ?_ | refine Go.condT rfl ?_ | refine Go.condF rfl ?_ | refine Go.condTt rfl Za ?_ | refine Go.condFt rfl Za ?_ | refine Go.condPt rfl (fun _ => ?_) (fun _ => ?_) | refine Go.condNt rfl (fun _ => ?_) (fun _ => ?_) | refine Go.block ?_ | refine Go.unblk ?_ | refine Go.skip ?_ | refine Go.exit rfl ?_ | refine Go.retF rfl ?_ rfl | refine Go.endF rfl ?_ rfl | refine Go.retFm rfl rfl ?_ rfl | refine Go.endFm rfl rfl ?_ rfl | refine Go.retI rfl ?_ | refine Go.retM rfl rfl ?_ ?_ rfl | refine Go.endM rfl rfl ?_ ?_ rfl | refine Go.retY rfl rfl rfl ?_ | refine Go.endY rfl rfl rfl ?_ | refine (Ops.val eF rfl rfl Zw (by exact Hop.ldFG eF rfl rfl rfl rfl rfl rfl rfl (fun _ => rfl) (by omega)) ?_) | refine Go.endI rfl ?_
    all_goals try simp only [Int.toNat_natCast] at *
    all_goals try (exfalso; omega)
    all_goals refine Go.midE ⟨rfl, rfl, rfl, rfl, congrArg (fun b => some (AV.bool b)) (?_ : _ = bd (hdP l i)), rfl, rfl, rfl, trivial⟩
    all_goals first
     | exact (bd_no fun h => by obtain ⟨h1, h2, _⟩ := h; omega).symm
     | (rw [e1]; exact bd_congr ⟨fun q => ⟨by assumption, by assumption, .inr q⟩, fun h => by rcases h.2.2 with r | r; (exfalso; omega); exact r⟩)
  ·repeat' first | refine Go.seq ?_ | refine Go.region rfl ?_ | refine Ops.nil ?_ | refine Ops.val eF rfl rfl Zw (by first | exact Z1 | exact Z4 | exact Z5 | exact Z6) ?_ | refine Go.block ?_
   refine Go.loop (fun k : Nat => [(0, .fn (.yield 1) [] []), (1, .rptr [txsA l]), (3, .int .i64 i), (4, .ptr 2 0), (5, .bool (bd (okUp l i k))), (8, txsA l), (9, .int .i64 l.length), (10, .int .i64 i), (40, dasA (l.getD i default).l), (41, .int .i64 (l.getD i default).l.length), (42, .int .i64 k)]) (fun k => hq 3 [.arr 0 i 0 [], .none, .row ⟨38, 2, .leaf, encTx (l.getD i default), none⟩]) (fun k => k ≤ (l.getD i default).l.length) (fun k => (l.getD i default).l.length - k) 0 (Nat.zero_le _) ⟨rfl, rfl, rfl, rfl, congrArg (fun b => some (AV.bool b)) (bd_congr (okUp_zero l i)).symm, rfl, rfl, rfl, rfl, rfl, rfl, trivial⟩ rfl (fun k hk ih2 => ?_)
   have hdi := hd i
   by_cases c1 : (k : Int) < ((l.getD i default).l.length : Int)
   ·have hkl : k < (l.getD i default).l.length := by omega
    have kc := k32 ((l.getD i default).l.getD k default) (hs i k)
    have kd := k65 ((l.getD i default).l.getD ((k : Int) - 1).toNat default) ((l.getD i default).l.getD k default)
    repeat' first | refine Go.seq ?_ | refine Go.region rfl ?_ | refine Ops.nil ?_ | refine Ops.val eF rfl rfl Zw (by first | exact Z1 | exact Z3 | exact Y24 | exact Z5) ?_ | refine Ops.rowAt eF 3 rfl rfl Zw rfl (Hop.alloc eF rfl rfl rfl) ?_ | refine Ops.unit eF rfl Zw (Hop.store eF rfl rfl rfl rfl rfl rfl) (ArrKeep.put rfl) ?_ | refine Go.condTt rfl Za ?_ | refine Go.block ?_ | refine Go.skip ?_
    have es := okUp_succ l i k
    have e2 : ((k : Int) - 1).toNat = k - 1 := by omega
    refine Go.toHQ (N := 4) (bs := [.arr 0 i 0 [], .none, .row ⟨38, 2, .leaf, encTx (l.getD i default), none⟩, .row ⟨65, 9, .leaf, encDa ((l.getD i default).l.getD k default), none⟩]) (L' := [(0, .fn (.yield 1) [] []), (1, .rptr [txsA l]), (3, .int .i64 i), (4, .ptr 2 0), (5, .bool (bd (okUp l i k))), (6, .int .i64 k), (7, .ptr 3 0), (8, txsA l), (9, .int .i64 l.length), (10, .int .i64 i), (40, dasA (l.getD i default).l), (41, .int .i64 (l.getD i default).l.length), (42, .int .i64 k)]) ?_ rfl eF.g Zt rfl rfl Zg Zl rfl rfl
    refine Go.mid [(0, .fn (.yield 1) [] []), (1, .rptr [txsA l]), (3, .int .i64 i), (4, .ptr 2 0), (5, .bool (bd (okUp l i (k + 1)))), (8, txsA l), (9, .int .i64 l.length), (10, .int .i64 i), (40, dasA (l.getD i default).l), (41, .int .i64 (l.getD i default).l.length), (42, .int .i64 k)] (hq 4 [.arr 0 i 0 [], .none, .row ⟨38, 2, .leaf, encTx (l.getD i default), none⟩, .row ⟨65, 9, .leaf, encDa ((l.getD i default).l.getD k default), none⟩]) ?_ ?_
    ·let n65 : Ent cF := unitE kd rfl
     by_cases hD : DaP ((l.getD i default).l.getD k default)
     ·have kc' : KOk cF 40 [.agg (encDa ((l.getD i default).l.getD k default))] (.int .i64 0) := by rwa [bd_of hD] at kc
      let n39 : Ent cF := unitE kc' rfl
      by_cases k0 : (k : Int) = 0
      ·refine Go.draw eF hm [n39, n65] [0, 1, 2, 3, 4, 5, 6, 7, 8, 9, 10, 11, 12, 13, 14, 15, 16, 17, 18, 19, 20, 21, 22, 23, 24, 25, 26, 27, 28] dr39_1 ?_
       repeat' first | refine Dr.nil ?_ | refine Dr.pure rfl rfl rfl rfl Zw (by first | exact Z1 | exact Z2 | exact Z3 | exact Y15 | exact Z4 | exact Y24 | exact Z5) ?_ | refine Dr.light rfl rfl rfl rfl Zw Z5 ?_ | refine Dr.skip rfl rfl rfl Zn ?_ | refine Dr.gP rfl rfl (fun _ => ?_) (fun _ => ?_) | refine Dr.call rfl rfl rfl rfl Zw rfl rfl rfl rfl (by first | exact pans_hd () rfl rfl | exact pans_tl rfl (pans_hd () rfl rfl)) ?_
       repeat' first | refine Go.seq ?_ | refine Go.region rfl ?_ | refine Ops.nil ?_ | refine Ops.val eF rfl rfl Zw (by first | exact Z1 | exact Z2 | exact Z3 | exact Y12 | exact Y14 | exact Y15 | exact Z4 | exact Y24 | exact Y25 | exact Z5 | exact Y31 | exact Z6) ?_ | refine Ops.skip rfl rfl Zn ?_ | refine Ops.skipU rfl Zn ?_ | refine Ops.gT rfl rfl Za ?_ | refine Ops.gF rfl rfl Za ?_ | refine Ops.gP rfl rfl (fun _ => ?_) (fun _ => ?_) | refine Ops.gN rfl rfl (fun _ => ?_) (fun _ => ?_) | refine Ops.rowAt eF 0 rfl rfl Zw rfl (Hop.boxC rfl rfl rfl) ?_ | refine Ops.rowAt eF 1 rfl rfl Zw rfl (Hop.boxC rfl rfl rfl) ?_ | refine Ops.rowAt eF 2 rfl rfl Zw rfl (Hop.boxC rfl rfl rfl) ?_ | refine Ops.rowAt eF 3 rfl rfl Zw rfl (Hop.boxC rfl rfl rfl) ?_ | refine Ops.rowAt eF 4 rfl rfl Zw rfl (Hop.boxC rfl rfl rfl) ?_ | refine Ops.rowAt eF 5 rfl rfl Zw rfl (Hop.boxC rfl rfl rfl) ?_ | refine Ops.rowAt eF 6 rfl rfl Zw rfl (Hop.boxC rfl rfl rfl) ?_ | refine Ops.rowAt eF 7 rfl rfl Zw rfl (Hop.boxC rfl rfl rfl) ?_ | refine Ops.rowAt eF 8 rfl rfl Zw rfl (Hop.boxC rfl rfl rfl) ?_ | refine Ops.rowAt eF 0 rfl rfl Zw rfl (Hop.alloc eF rfl rfl rfl) ?_ | refine Ops.rowAt eF 1 rfl rfl Zw rfl (Hop.alloc eF rfl rfl rfl) ?_ | refine Ops.rowAt eF 2 rfl rfl Zw rfl (Hop.alloc eF rfl rfl rfl) ?_ | refine Ops.rowAt eF 3 rfl rfl Zw rfl (Hop.alloc eF rfl rfl rfl) ?_ | refine Ops.rowAt eF 4 rfl rfl Zw rfl (Hop.alloc eF rfl rfl rfl) ?_ | refine Ops.rowAt eF 5 rfl rfl Zw rfl (Hop.alloc eF rfl rfl rfl) ?_ | refine Ops.rowAt eF 6 rfl rfl Zw rfl (Hop.alloc eF rfl rfl rfl) ?_ | refine Ops.rowAt eF 7 rfl rfl Zw rfl (Hop.alloc eF rfl rfl rfl) ?_ | refine Ops.rowAt eF 8 rfl rfl Zw rfl (Hop.alloc eF rfl rfl rfl) ?_ | refine Ops.unit eF rfl Zw (Hop.store eF rfl rfl rfl rfl rfl rfl) (ArrKeep.put rfl) ?_ | refine Go.condT rfl ?_ | refine Go.condF rfl ?_ | refine Go.condTt rfl Za ?_ | refine Go.condFt rfl Za ?_ | refine Go.condPt rfl (fun _ => ?_) (fun _ => ?_) | refine Go.condNt rfl (fun _ => ?_) (fun _ => ?_) | refine Go.block ?_ | refine Go.unblk ?_ | refine Go.skip ?_ | refine Go.exit rfl ?_ | refine Go.retF rfl ?_ rfl | refine Go.endF rfl ?_ rfl | refine Go.retFm rfl rfl ?_ rfl | refine Go.endFm rfl rfl ?_ rfl | refine Go.retI rfl ?_ | refine Go.retM rfl rfl ?_ ?_ rfl | refine Go.endM rfl rfl ?_ ?_ rfl | refine Go.retY rfl rfl rfl ?_ | refine Go.endY rfl rfl rfl ?_ | refine (Ops.val eF rfl rfl Zw (by exact Hop.ldFG eF rfl rfl rfl rfl rfl rfl rfl (fun _ => rfl) (by omega)) ?_) | refine Go.endI rfl ?_
       all_goals try simp only [Int.toNat_natCast] at *
       all_goals try (exfalso; omega)
       all_goals try exact absurd trivial (by assumption)
       all_goals refine Go.midE ⟨rfl, rfl, rfl, rfl, congrArg (fun b => some (AV.bool b)) (?_ : _ = bd (okUp l i (k + 1))), rfl, rfl, rfl, rfl, rfl, rfl, trivial⟩
       all_goals first
        | exact (bd_no fun h => absurd (es.1 h).1 (by assumption)).symm
        | exact (bd_no fun h => absurd (es.1 h).2.1 (by assumption)).symm
        | exact (bd_of (es.2 ⟨by assumption, by assumption, hD, .inl (by omega)⟩)).symm
      ·have hk1 : 0 ≤ (k : Int) - 1 ∧ (k : Int) - 1 < (l.getD i default).l.length := by omega
       refine Go.draw eF hm [n39, n65] [0, 1, 2, 3, 4, 5, 6, 7, 8, 9, 10, 11, 12, 13, 14, 15, 16, 17, 18, 19, 20, 21, 22, 23, 24, 25, 26, 27, 28] dr39_1 ?_
       repeat' first | refine Dr.nil ?_ | refine Dr.pure rfl rfl rfl rfl Zw (by first | exact Z1 | exact Z2 | exact Z3 | exact Y15 | exact Z4 | exact Y24 | exact Z5) ?_ | refine Dr.light rfl rfl rfl rfl Zw Z5 ?_ | refine Dr.skip rfl rfl rfl Zn ?_ | refine Dr.gP rfl rfl (fun _ => ?_) (fun _ => ?_) | refine Dr.call rfl rfl rfl rfl Zw rfl rfl rfl rfl (by first | exact pans_hd () rfl rfl | exact pans_tl rfl (pans_hd () rfl rfl)) ?_
       repeat' first | refine Go.seq ?_ | refine Go.region rfl ?_ | refine Ops.nil ?_ | refine Ops.val eF rfl rfl Zw (by first | exact Z1 | exact Z2 | exact Z3 | exact Y12 | exact Y14 | exact Y15 | exact Z4 | exact Y24 | exact Y25 | exact Z5 | exact Y31 | exact Z6) ?_ | refine Ops.skip rfl rfl Zn ?_ | refine Ops.skipU rfl Zn ?_ | refine Ops.gT rfl rfl Za ?_ | refine Ops.gF rfl rfl Za ?_ | refine Ops.gP rfl rfl (fun _ => ?_) (fun _ => ?_) | refine Ops.gN rfl rfl (fun _ => ?_) (fun _ => ?_) | refine Ops.rowAt eF 0 rfl rfl Zw rfl (Hop.boxC rfl rfl rfl) ?_ | refine Ops.rowAt eF 1 rfl rfl Zw rfl (Hop.boxC rfl rfl rfl) ?_ | refine Ops.rowAt eF 2 rfl rfl Zw rfl (Hop.boxC rfl rfl rfl) ?_ | refine Ops.rowAt eF 3 rfl rfl Zw rfl (Hop.boxC rfl rfl rfl) ?_ | refine Ops.rowAt eF 4 rfl rfl Zw rfl (Hop.boxC rfl rfl rfl) ?_ | refine Ops.rowAt eF 5 rfl rfl Zw rfl (Hop.boxC rfl rfl rfl) ?_ | refine Ops.rowAt eF 6 rfl rfl Zw rfl (Hop.boxC rfl rfl rfl) ?_ | refine Ops.rowAt eF 7 rfl rfl Zw rfl (Hop.boxC rfl rfl rfl) ?_ | refine Ops.rowAt eF 8 rfl rfl Zw rfl (Hop.boxC rfl rfl rfl) ?_ | refine Ops.rowAt eF 0 rfl rfl Zw rfl (Hop.alloc eF rfl rfl rfl) ?_ | refine Ops.rowAt eF 1 rfl rfl Zw rfl (Hop.alloc eF rfl rfl rfl) ?_ | refine Ops.rowAt eF 2 rfl rfl Zw rfl (Hop.alloc eF rfl rfl rfl) ?_ | refine Ops.rowAt eF 3 rfl rfl Zw rfl (Hop.alloc eF rfl rfl rfl) ?_ | refine Ops.rowAt eF 4 rfl rfl Zw rfl (Hop.alloc eF rfl rfl rfl) ?_ | refine Ops.rowAt eF 5 rfl rfl Zw rfl (Hop.alloc eF rfl rfl rfl) ?_ | refine Ops.rowAt eF 6 rfl rfl Zw rfl (Hop.alloc eF rfl rfl rfl) ?_ | refine Ops.rowAt eF 7 rfl rfl Zw rfl (Hop.alloc eF rfl rfl rfl) ?_ | refine Ops.rowAt eF 8 rfl rfl Zw rfl (Hop.alloc eF rfl rfl rfl) ?_ | refine Ops.unit eF rfl Zw (Hop.store eF rfl rfl rfl rfl rfl rfl) (ArrKeep.put rfl) ?_ | refine Go.condT rfl ?_ | refine Go.condF rfl ?_ | refine Go.condTt rfl Za ?_ | refine Go.condFt rfl Za ?_ | refine Go.condPt rfl (fun _ => ?_) (fun _ => ?_) | refine Go.condNt rfl (fun _ => ?_) (fun _ => ?_) | refine Go.block ?_ | refine Go.unblk ?_ | refine Go.skip ?_ | refine Go.exit rfl ?_ | refine Go.retF rfl ?_ rfl | refine Go.endF rfl ?_ rfl | refine Go.retFm rfl rfl ?_ rfl | refine Go.endFm rfl rfl ?_ rfl | refine Go.retI rfl ?_ | refine Go.retM rfl rfl ?_ ?_ rfl | refine Go.endM rfl rfl ?_ ?_ rfl | refine Go.retY rfl rfl rfl ?_ | refine Go.endY rfl rfl rfl ?_ | refine (Ops.val eF rfl rfl Zw (by exact Hop.ldFG eF rfl rfl rfl rfl rfl rfl rfl (fun _ => rfl) (by omega)) ?_) | refine Go.endI rfl ?_
       all_goals try simp only [Int.toNat_natCast] at *
       all_goals try (exfalso; omega)
       all_goals try exact absurd trivial (by assumption)
       all_goals refine Go.midE ⟨rfl, rfl, rfl, rfl, congrArg (fun b => some (AV.bool b)) (?_ : _ = bd (okUp l i (k + 1))), rfl, rfl, rfl, rfl, rfl, rfl, trivial⟩
       all_goals first
        | exact (bd_no fun h => absurd (es.1 h).1 (by assumption)).symm
        | exact (bd_no fun h => absurd (es.1 h).2.1 (by assumption)).symm
        | (rw [e2]; exact bd_congr ⟨fun q => es.2 ⟨by assumption, by assumption, hD, .inr q⟩, fun h => by rcases (es.1 h).2.2.2 with r | r; (exfalso; omega); exact r⟩)
     ·have kc' : KOk cF 40 [.agg (encDa ((l.getD i default).l.getD k default))] (.int .i64 40) := by rwa [bd_no hD] at kc
      let n39 : Ent cF := unitE kc' rfl
      refine Go.draw eF hm [n39, n65] [0, 1, 2, 3, 4, 5, 6, 7, 8, 9, 10, 11, 12, 13, 14, 15, 16, 17, 18, 19, 20, 21, 22, 23, 24, 25, 26, 27, 28] dr39_1 ?_
      repeat' first | refine Dr.nil ?_ | refine Dr.pure rfl rfl rfl rfl Zw (by first | exact Z1 | exact Z2 | exact Z3 | exact Y15 | exact Z4 | exact Y24 | exact Z5) ?_ | refine Dr.light rfl rfl rfl rfl Zw Z5 ?_ | refine Dr.skip rfl rfl rfl Zn ?_ | refine Dr.gP rfl rfl (fun _ => ?_) (fun _ => ?_) | refine Dr.call rfl rfl rfl rfl Zw rfl rfl rfl rfl (by first | exact pans_hd () rfl rfl | exact pans_tl rfl (pans_hd () rfl rfl)) ?_
      repeat' first | refine Go.seq ?_ | refine Go.region rfl ?_ | refine Ops.nil ?_ | refine Ops.val eF rfl rfl Zw (by first | exact Z1 | exact Z2 | exact Z3 | exact Y12 | exact Y14 | exact Y15 | exact Z4 | exact Y24 | exact Y25 | exact Z5 | exact Y31 | exact Z6) ?_ | refine Ops.skip rfl rfl Zn ?_ | refine Ops.skipU rfl Zn ?_ | refine Ops.gT rfl rfl Za ?_ | refine Ops.gF rfl rfl Za ?_ | refine Ops.gP rfl rfl (fun _ => ?_) (fun _ => ?_) | refine Ops.gN rfl rfl (fun _ => ?_) (fun _ => ?_) | refine Ops.rowAt eF 0 rfl rfl Zw rfl (Hop.boxC rfl rfl rfl) ?_ | refine Ops.rowAt eF 1 rfl rfl Zw rfl (Hop.boxC rfl rfl rfl) ?_ | refine Ops.rowAt eF 2 rfl rfl Zw rfl (Hop.boxC rfl rfl rfl) ?_ | refine Ops.rowAt eF 3 rfl rfl Zw rfl (Hop.boxC rfl rfl rfl) ?_ | refine Ops.rowAt eF 4 rfl rfl Zw rfl (Hop.boxC rfl rfl rfl) ?_ | refine Ops.rowAt eF 5 rfl rfl Zw rfl (Hop.boxC rfl rfl rfl) ?_ | refine Ops.rowAt eF 6 rfl rfl Zw rfl (Hop.boxC rfl rfl rfl) ?_ | refine Ops.rowAt eF 7 rfl rfl Zw rfl (Hop.boxC rfl rfl rfl) ?_ | refine Ops.rowAt eF 8 rfl rfl Zw rfl (Hop.boxC rfl rfl rfl) ?_ | refine Ops.rowAt eF 0 rfl rfl Zw rfl (Hop.alloc eF rfl rfl rfl) ?_ | refine Ops.rowAt eF 1 rfl rfl Zw rfl (Hop.alloc eF rfl rfl rfl) ?_ | refine Ops.rowAt eF 2 rfl rfl Zw rfl (Hop.alloc eF rfl rfl rfl) ?_ | refine Ops.rowAt eF 3 rfl rfl Zw rfl (Hop.alloc eF rfl rfl rfl) ?_ | refine Ops.rowAt eF 4 rfl rfl Zw rfl (Hop.alloc eF rfl rfl rfl) ?_ | refine Ops.rowAt eF 5 rfl rfl Zw rfl (Hop.alloc eF rfl rfl rfl) ?_ | refine Ops.rowAt eF 6 rfl rfl Zw rfl (Hop.alloc eF rfl rfl rfl) ?_ | refine Ops.rowAt eF 7 rfl rfl Zw rfl (Hop.alloc eF rfl rfl rfl) ?_ | refine Ops.rowAt eF 8 rfl rfl Zw rfl (Hop.alloc eF rfl rfl rfl) ?_ | refine Ops.unit eF rfl Zw (Hop.store eF rfl rfl rfl rfl rfl rfl) (ArrKeep.put rfl) ?_ | refine Go.condT rfl ?_ | refine Go.condF rfl ?_ | refine Go.condTt rfl Za ?_ | refine Go.condFt rfl Za ?_ | refine Go.condPt rfl (fun _ => ?_) (fun _ => ?_) | refine Go.condNt rfl (fun _ => ?_) (fun _ => ?_) | refine Go.block ?_ | refine Go.unblk ?_ | refine Go.skip ?_ | refine Go.exit rfl ?_ | refine Go.retF rfl ?_ rfl | refine Go.endF rfl ?_ rfl | refine Go.retFm rfl rfl ?_ rfl | refine Go.endFm rfl rfl ?_ rfl | refine Go.retI rfl ?_ | refine Go.retM rfl rfl ?_ ?_ rfl | refine Go.endM rfl rfl ?_ ?_ rfl | refine Go.retY rfl rfl rfl ?_ | refine Go.endY rfl rfl rfl ?_ | refine (Ops.val eF rfl rfl Zw (by exact Hop.ldFG eF rfl rfl rfl rfl rfl rfl rfl (fun _ => rfl) (by omega)) ?_) | refine Go.endI rfl ?_
      all_goals try simp only [Int.toNat_natCast] at *
      all_goals try (exfalso; omega)
      all_goals try exact absurd trivial (by assumption)
      all_goals refine Go.midE ⟨rfl, rfl, rfl, rfl, congrArg (fun b => some (AV.bool b)) (?_ : _ = bd (okUp l i (k + 1))), rfl, rfl, rfl, rfl, rfl, rfl, trivial⟩
      all_goals first
       | exact (bd_no fun h => absurd (es.1 h).1 (by assumption)).symm
       | exact (bd_no fun h => absurd (es.1 h).2.1 (by assumption)).symm
       | exact (bd_no fun h => absurd (es.1 h).2.2.1 hD).symm
    ·repeat' first | refine Go.region rfl ?_ | refine Ops.nil ?_ | refine Ops.val eF rfl rfl Zw (by first | exact Z1 | exact Y14) ?_ | refine Go.unblk ?_
     exact Go.toQ (ih2 (k + 1) (by omega) (by omega)) rfl eF.g Zt rfl rfl Zg Zl rfl rfl
   ·have ek : k = (l.getD i default).l.length := by omega
    subst ek
    repeat' first | refine Go.seq ?_ | refine Go.region rfl ?_ | refine Ops.nil ?_ | refine Ops.yieldJ eF Zw rfl rfl rfl rfl rfl rfl rfl (by rw [hG]; exact itemsT_of hlt) rfl rfl ?_ ?_ | refine Ops.val eF rfl rfl Zw (by first | exact Z1 | exact Z2 | exact Z3 | exact Y14 | exact Z5) ?_ | refine Go.condT rfl ?_ | refine Go.condF rfl ?_ | refine Go.condFt rfl Za ?_ | refine Go.unblk ?_ | refine Go.skip ?_ | refine Go.exit rfl ?_ | refine Go.retY rfl rfl rfl ?_
    ·exact Go.toQ (ih (i + 1) (by omega) (by omega)) rfl eF.g Zt rfl rfl Zg Zl rfl rfl
    ·exact .inr (by rw [hG])
 ·have ei : i = l.length := by omega
  subst ei
  repeat' first | refine Go.seq ?_ | refine Go.region rfl ?_ | refine Ops.nil ?_ | refine Ops.val eF rfl rfl Zw Z3 ?_ | refine Go.condFt rfl Za ?_ | refine Go.exit rfl ?_ | refine Go.endY rfl rfl rfl ?_
  exact .inl (by simp [itemsT])
end Go.Px.De
end
section
namespace Go.Px.Du
open Go.Proofs Go.Px.Ds Go.Px.De
inductive Nd where
 | mk (k : Int) (v : Va) (s : Str) (kids : List Nd) (ln co : Int)
def Nd.k : Nd → Int | .mk k _ _ _ _ _ => k
def Nd.v : Nd → Va | .mk _ v _ _ _ _ => v
def Nd.s : Nd → Str | .mk _ _ s _ _ _ => s
def Nd.kids : Nd → List Nd | .mk _ _ _ l _ _ => l
def Nd.ln : Nd → Int | .mk _ _ _ _ n _ => n
def Nd.co : Nd → Int | .mk _ _ _ _ _ n => n
instance : Inhabited Nd := ⟨.mk 0 default [] [] 0 0⟩
mutual
def encNd : Nd → List AV
 | .mk k v s kids ln co => [.int .i64 k, .int .i64 v.k, .int .i64 v.n, sA v.s, sA s, .rsl kids.length 8 (encNds kids), .int .i64 ln, .int .i64 co]
def encNds : List Nd → List AV
 | [] => []
 | c :: r => encNd c ++ encNds r
end
def ndsA (l : List Nd) : AV := .rsl l.length 8 (encNds l)
def encN (c : Nd) : List AV := [.int .i64 c.k, .int .i64 c.v.k, .int .i64 c.v.n, sA c.v.s, sA c.s, ndsA c.kids, .int .i64 c.ln, .int .i64 c.co]
theorem encNds_eq : ∀ l : List Nd, encNds l = l.flatMap encN
 | [] => by simp [encNds]
 | .mk k v s kids ln co :: r => by
  simp only [encNds, encNd, List.flatMap_cons, encN, Nd.k, Nd.v, Nd.s, Nd.kids, Nd.ln, Nd.co, ndsA]
  rw [encNds_eq r]
theorem ndsA_eq (l : List Nd) : ndsA l = dsl 8 encN l := by unfold ndsA dsl; rw [encNds_eq]
end Go.Px.Du
end
section
namespace Go.Px.Du
open Go.Proofs Go.Px.Ds Go.Px.De
def dmA (l : List Tx) (n : Int) : List AV := [txsA l, .int .i64 n]
end Go.Px.Du
end
section
set_option maxHeartbeats 4000000
set_option maxRecDepth 20000
namespace Go.Px.De
open Go.Proofs Go.Px.Ds
attribute [local irreducible] Go.Px.KOk
def sumD (l : List Da) : Nat := (l.map fun d => 20 + d.v.s.length).sum
theorem sumD_succ {l : List Da} {i : Nat} (h : i < l.length) : sumD (l.take (i + 1)) = sumD (l.take i) + 20 + (l.getD i default).v.s.length := by
 unfold sumD
 rw [take_succ' h, List.map_append, List.sum_append]
 simp; omega
theorem sumD_take (l : List Da) (i : Nat) : sumD (l.take i) ≤ sumD l := by
 have : sumD l = sumD (l.take i) + sumD (l.drop i) := by
  unfold sumD
  rw [← List.sum_append, ← List.map_append, List.take_append_drop]
 omega
noncomputable def greatD (l : List Da) : Int := bif bd (4000 < sumD l) then 1 else 0
theorem k16d (l : List Da) (hl : sumD l ≤ 1000000000) (hn : l.length ≤ 10000000) : KOk cF 9 [dasA l] (.int .i64 (greatD l)) := by
 refine KOk.of cF_ok eF.g Tryz.func9 rfl (Nat.le_of_ble_eq_true rfl) fun w F => ?_
 repeat' first | refine Go.seq ?_ | refine Go.region rfl ?_ | refine Ops.nil ?_ | refine Ops.val eF rfl rfl Zw Z1 ?_ | refine Go.block ?_
 refine Go.loop (fun i : Nat => [(0, dasA l), (3, .int .i64 (sumD (l.take i))), (4, .int .i64 i)]) (fun _ => hS) (fun i => i ≤ l.length) (fun i => l.length - i) 0 (Nat.zero_le _) Zt rfl (fun i hi ih => ?_)
 by_cases c0 : (i : Int) < (l.length : Int)
 ·have hlt : i < l.length := by omega
  have e := sumD_succ hlt
  have h1 := sumD_take l (i + 1)
  have h2 : ((l.getD (i : Int).toNat default).v.s.length : Int) ≤ 1000000000 := by
   have : (l.getD i default).v.s.length ≤ 1000000000 := by omega
   have h : (l.getD (i : Int).toNat default).v.s.length ≤ 1000000000 := this
   omega
  have h3 : (sumD (l.take i) : Int) ≤ 1000000000 := by omega
  have g := ih (i + 1) (by omega) (by omega)
  rw [e] at g
  repeat' first | refine Go.seq ?_ | refine Go.region rfl ?_ | refine Ops.nil ?_ | refine Ops.val eF rfl rfl Zw (by first | exact Z1 | exact Z3 | exact Y14 | exact Z4 | exact Y24 | exact Z5 | exact Z6) ?_ | refine Go.condTt rfl Za ?_ | refine Go.block ?_ | refine Go.unblk ?_ | refine Go.skip ?_
  exact Go.to g Zt
 ·have ei : i = l.length := by omega
  subst ei
  rw [List.take_length]
  repeat' first | refine Go.seq ?_ | refine Go.region rfl ?_ | refine Ops.nil ?_ | refine Ops.val eF rfl rfl Zw (by first | exact Z1 | exact Z3 | exact Z6) ?_ | refine Go.condFt rfl Za ?_ | refine Go.condPt rfl (fun _ => ?_) (fun _ => ?_) | refine Go.skip ?_ | refine Go.exit rfl ?_ | refine Go.retF rfl ?_ rfl
  ·rename_i q
   rw [greatD, bd_of (by omega)]; rfl
  ·rename_i q
   rw [greatD, bd_no (by omega)]; rfl
end Go.Px.De
end
section
set_option maxHeartbeats 4000000
set_option maxRecDepth 20000
namespace Go.Px.De
open Go.Proofs Go.Px.Ds
attribute [local irreducible] Go.Px.KOk
def AllT (l : List Tx) : Prop := ∀ i, i < l.length → okTx l i
theorem k14 (l : List Tx) (hl : l.length ≤ 1000000) (hd : ∀ i, (l.getD i default).l.length ≤ 1000000) (hs : ∀ i k, ((l.getD i default).l.getD k default).v.s.length ≤ 100000) : KOk cF 19 [txsA l] (.int .i64 (bif bd (AllT l) then 0 else 270)) := by
 have k1 := k35t l
 have it := it64 l hl hd hs
 refine KOk.of cF_ok eF.g Tryz.func19 rfl (Nat.le_of_ble_eq_true rfl) fun w F => ?_
 repeat' first | refine Go.seq ?_ | refine Go.region rfl ?_ | refine Ops.nil ?_ | refine Ops.val eF rfl rfl Zw Z1 ?_ | refine Ops.call eF rfl rfl Zw rfl rfl rfl rfl (k1) rfl ?_ | refine Ops.rowAt eF 0 rfl rfl Zw rfl (Hop.alloc eF rfl rfl rfl) ?_ | refine Ops.unit eF rfl Zw (Hop.store eF rfl rfl rfl rfl rfl rfl) (ArrKeep.put rfl) ?_ | refine Go.block ?_ | refine Go.scope ?_ | refine Go.label ?_
 refine Go.to (M := [(3, .ptr 0 0), (7, .fn (.func 39) [] [.rptr [txsA l]])]) ?_ Zt
 refine Go.rangeP eF 1 rfl rfl rfl it rfl (fun j => ∀ k, k < j → okTx l k) (fun j => hq 2 [.row ⟨26, 1, .leaf, [.int .i64 0], none⟩, .dfr true]) (fun k hk => absurd hk (Nat.not_lt_zero _))
  (fun b => ChgE.cut _ rfl eF.g rfl Zg Zl) (fun j v hv => by rw [(itemsT_at hv).2]; rfl) rfl (fun j v hv hP b2 => ?_) rfl (fun hP => ?_)
 ·obtain ⟨hj, rfl⟩ := itemsT_at hv
  repeat' first | refine Go.region rfl ?_ | refine Ops.nil ?_ | refine Ops.val eF rfl rfl Zw Z1 ?_
  refine Go.bodyK (fun b3 => ?_)
  repeat' first | refine Go.seq ?_ | refine Go.region rfl ?_ | refine Ops.nil ?_ | refine Ops.val eF rfl rfl Zw (by first | exact Z1 | exact Z2) ?_ | refine Ops.unit eF rfl Zw (Hop.store eF rfl rfl rfl rfl rfl rfl) (ArrKeep.put rfl) ?_ | refine Go.condNt rfl (fun _ => ?_) (fun _ => ?_) | refine Go.block ?_ | refine Go.unblk ?_ | refine Go.skip ?_
  ·rename_i q
   refine Go.stopX rfl rfl ?_
   have e : ¬ AllT l := fun h => q (h j hj)
   rw [bd_no e]
   repeat' first | refine Go.seq ?_ | refine Go.region rfl ?_ | refine Ops.nil ?_ | refine Ops.val eF rfl rfl Zw (by first | exact Z1 | exact Z5) ?_ | refine Go.retFm rfl rfl ?_ rfl
   all_goals rfl
  ·rename_i q
   refine Go.nextK ?_
   rw [HP_t (fun k hk => by rcases Nat.lt_succ_iff_lt_or_eq.1 hk with r | r; exact hP k r; subst r; exact q)]
   exact ChgE.cut _ rfl eF.g rfl Zg Zl
 ·have e : AllT l := fun i hi => hP i (by simpa [itemsT] using hi)
  rw [bd_of e]
  repeat' first | refine Go.seq ?_ | refine Go.region rfl ?_ | refine Ops.nil ?_ | refine Ops.val eF rfl rfl Zw (by first | exact Z1 | exact Z5) ?_ | refine Go.unblk ?_ | refine Go.retFm rfl rfl ?_ rfl
  all_goals rfl
theorem k62 : KOk cF 56 [.int .i64 1] (sA [101, 97, 118]) := by
 refine KOk.of cF_ok eF.g Tryz.func56 rfl (Nat.le_of_ble_eq_true rfl) fun w F => ?_
 repeat' first | refine Go.seq ?_ | refine Go.region rfl ?_ | refine Ops.nil ?_ | refine Ops.val eF rfl rfl Zw (by first | exact Z1 | exact Z3) ?_ | refine Go.condTt rfl Za ?_ | refine Go.block ?_ | refine Go.retF rfl ?_ rfl
 all_goals first
  | rfl
  | exact absurd rfl (by assumption)
  | (exfalso; omega)
end Go.Px.De
end
