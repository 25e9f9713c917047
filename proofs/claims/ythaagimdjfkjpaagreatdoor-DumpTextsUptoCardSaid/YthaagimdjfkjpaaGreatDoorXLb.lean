/- Parts of the proof in YthaagimdjfkjpaaGreatDoorXFin: DeB, DeC, DeD, DeE. -/
import Derived.Test.YthaagimdjfkjpaaGreatDoorXLa
import Derived.Test.YthaagimdjfkjpaaGreatDoorXK4
set_option linter.unusedVariables false
set_option linter.unusedSimpArgs false
section
set_option maxHeartbeats 4000000
set_option maxRecDepth 20000
namespace Go.Px.De
open Go.Proofs Go.Px.Ds
attribute [local irreducible] Go.Px.KOk
theorem k86 (n : Int) : KOk cF 64 [.int .i64 n] (.agg (encPt (nmP n))) := by
 refine KOk.of cF_ok eF.g Tryz.func64 rfl (Nat.le_of_ble_eq_true rfl) fun w F => ?_
 repeat' first | refine Go.seq ?_ | refine Go.region rfl ?_ | refine Ops.nil ?_ | refine Ops.val eF rfl rfl Zw (by first | exact Z1 | exact Y36) ?_ | refine Ops.rowAt eF 0 rfl rfl Zw rfl (Hop.alloc eF rfl rfl rfl) ?_ | refine Ops.unit eF rfl Zw (Hop.store eF rfl rfl rfl rfl rfl rfl) (ArrKeep.put rfl) ?_
 exact Go.retFc [_] rfl ⟨Hop.ldPG eF rfl rfl rfl rfl rfl rfl rfl, trivial⟩ rfl rfl
theorem k105 (v : Va) : KOk cF 80 [.agg (encVa v)] (.agg (encPt (sdP v))) := by
 refine KOk.of cF_ok eF.g Tryz.func80 rfl (Nat.le_of_ble_eq_true rfl) fun w F => ?_
 repeat' first | refine Go.seq ?_ | refine Go.region rfl ?_ | refine Ops.nil ?_ | refine Ops.val eF rfl rfl Zw (by first | exact Z5 | exact Y36) ?_ | refine Ops.rowAt eF 0 rfl rfl Zw rfl (Hop.boxC rfl rfl rfl) ?_ | refine Ops.rowAt eF 1 rfl rfl Zw rfl (Hop.alloc eF rfl rfl rfl) ?_ | refine Ops.unit eF rfl Zw (Hop.store eF rfl rfl rfl rfl rfl rfl) (ArrKeep.put rfl) ?_
 exact Go.retFc [_] rfl ⟨Hop.ldPG eF rfl rfl rfl rfl rfl rfl rfl, trivial⟩ rfl rfl
theorem k61 (d : Da) : KOk cF 63 [.agg (encDa d)] (.int .i64 (addN d)) := by
 refine KOk.of cF_ok eF.g Tryz.func63 rfl (Nat.le_of_ble_eq_true rfl) fun w F => ?_
 obtain ⟨e, a, v, t, add, fr, to⟩ := d
 cases add with
 | true =>
  repeat' first | refine Go.seq ?_ | refine Go.region rfl ?_ | refine Ops.nil ?_ | refine Ops.val eF rfl rfl Zw (by first | exact Z1 | exact Z4 | exact Z5) ?_ | refine Ops.boxR eF rfl rfl Zw rfl rfl rfl rfl ?_ | refine Go.condT rfl ?_ | refine Go.retF rfl ?_ rfl
  all_goals rfl
 | false =>
  repeat' first | refine Go.seq ?_ | refine Go.region rfl ?_ | refine Ops.nil ?_ | refine Ops.val eF rfl rfl Zw (by first | exact Z1 | exact Z4 | exact Z5) ?_ | refine Ops.boxR eF rfl rfl Zw rfl rfl rfl rfl ?_ | refine Go.condF rfl ?_ | refine Go.skip ?_ | refine Go.retF rfl ?_ rfl
  all_goals rfl
theorem k52 : KOk cF 49 [.int .i64 1] (.bool true) := by
 refine KOk.of cF_ok eF.g Tryz.func49 rfl (Nat.le_of_ble_eq_true rfl) fun w F => ?_
 repeat' first | refine Go.seq ?_ | refine Go.region rfl ?_ | refine Ops.nil ?_ | refine Ops.val eF rfl rfl Zw (by first | exact Z1 | exact Z2 | exact Z3) ?_ | refine Ops.gT rfl rfl Za ?_ | refine Go.retF rfl ?_ rfl
 all_goals first
  | exact congrArg AV.bool (bd_of (by decide))
  | exact absurd (by decide) (by assumption)
def unitE {f : FuncId} {us : List AV} {v : AV} (k : KOk cF f us v) (h : datsB us = true) : Ent cF := ⟨f, Unit, fun _ => us, fun _ => v, fun _ => k, fun _ => h, fun _ _ _ => rfl⟩
def n86 : Ent cF := ⟨64, Int, fun n => [.int .i64 n], fun n => .agg (encPt (nmP n)), k86, fun _ => rfl, fun a b h => by cases h; rfl⟩
noncomputable def r62_0 : List Oper := ((drawn (Tryz.f62.body.getD .skip))[0]?).getD []
theorem dr62_0 : chkOrd cF r62_0 [0, 1, 2, 3, 4, 5, 6, 7, 8, 9, 10] = true := by kernel_rfl
theorem k85 (d : Da) : KOk cF 62 [.int .i64 1, .agg (encDa d)] (.agg ([nmP d.e, nmP d.a, sdP d.v].flatMap encPt)) := by
 refine KOk.of cF_ok eF.g Tryz.func62 rfl (Nat.le_of_ble_eq_true rfl) fun w F => ?_
 let nv : Ent cF := unitE (k105 d.v) rfl
 repeat' first | refine Go.seq ?_ | refine Go.region rfl ?_ | refine Ops.nil ?_ | refine Ops.val eF rfl rfl Zw (by first | exact Z1 | exact Z3) ?_ | refine Ops.rowAt eF 0 rfl rfl Zw rfl (Hop.boxC rfl rfl rfl) ?_ | refine Ops.rowAt eF 1 rfl rfl Zw rfl (Hop.alloc eF rfl rfl rfl) ?_ | refine Go.condTt rfl Za ?_ | refine Go.block ?_
 refine Go.draw eF hm [n86, nv] [0, 1, 2, 3, 4, 5, 6, 7, 8, 9, 10] dr62_0 ?_
 repeat' first | refine Dr.nil ?_ | refine Dr.pure rfl rfl rfl rfl Zw (Hop.buildA eF rfl rfl rfl rfl rfl rfl rfl) ?_ | refine Dr.pure rfl rfl rfl rfl Zw (by first | exact Z4 | exact Z5) ?_ | refine Dr.light rfl rfl rfl rfl Zw Z5 ?_ | refine Dr.call rfl rfl rfl rfl Zw rfl rfl rfl rfl (by first | exact pans_hd _ rfl rfl | exact pans_tl rfl (pans_hd () rfl rfl)) ?_ | refine Dr.store rfl rfl rfl Zw (Hop.store eF rfl rfl rfl rfl rfl rfl) (ArrKeep.put rfl) rfl ?_
 repeat' first | refine Go.seq ?_ | refine Go.region rfl ?_ | refine Ops.nil ?_ | refine Ops.val eF rfl rfl Zw (by first | exact Z1 | exact Z3 | exact Y12 | exact Z4 | exact Z5 | exact Y31 | exact Y36) ?_ | refine Ops.rowAt eF 0 rfl rfl Zw rfl (Hop.boxC rfl rfl rfl) ?_ | refine Ops.rowAt eF 1 rfl rfl Zw rfl (Hop.boxC rfl rfl rfl) ?_ | refine Ops.rowAt eF 2 rfl rfl Zw rfl (Hop.boxC rfl rfl rfl) ?_ | refine Ops.rowAt eF 3 rfl rfl Zw rfl (Hop.boxC rfl rfl rfl) ?_ | refine Ops.rowAt eF 4 rfl rfl Zw rfl (Hop.boxC rfl rfl rfl) ?_ | refine Ops.rowAt eF 5 rfl rfl Zw rfl (Hop.boxC rfl rfl rfl) ?_ | refine Ops.rowAt eF 6 rfl rfl Zw rfl (Hop.boxC rfl rfl rfl) ?_ | refine Ops.rowAt eF 7 rfl rfl Zw rfl (Hop.boxC rfl rfl rfl) ?_ | refine Ops.rowAt eF 8 rfl rfl Zw rfl (Hop.boxC rfl rfl rfl) ?_ | refine Ops.rowAt eF 0 rfl rfl Zw rfl (Hop.alloc eF rfl rfl rfl) ?_ | refine Ops.rowAt eF 1 rfl rfl Zw rfl (Hop.alloc eF rfl rfl rfl) ?_ | refine Ops.rowAt eF 2 rfl rfl Zw rfl (Hop.alloc eF rfl rfl rfl) ?_ | refine Ops.rowAt eF 3 rfl rfl Zw rfl (Hop.alloc eF rfl rfl rfl) ?_ | refine Ops.rowAt eF 4 rfl rfl Zw rfl (Hop.alloc eF rfl rfl rfl) ?_ | refine Ops.rowAt eF 5 rfl rfl Zw rfl (Hop.alloc eF rfl rfl rfl) ?_ | refine Ops.rowAt eF 6 rfl rfl Zw rfl (Hop.alloc eF rfl rfl rfl) ?_ | refine Ops.rowAt eF 7 rfl rfl Zw rfl (Hop.alloc eF rfl rfl rfl) ?_ | refine Ops.rowAt eF 8 rfl rfl Zw rfl (Hop.alloc eF rfl rfl rfl) ?_ | refine Ops.unit eF rfl Zw (Hop.store eF rfl rfl rfl rfl rfl rfl) (ArrKeep.put rfl) ?_ | refine Go.condT rfl ?_ | refine Go.condF rfl ?_ | refine Go.condTt rfl Za ?_ | refine Go.condFt rfl Za ?_ | refine Go.condPt rfl (fun _ => ?_) (fun _ => ?_) | refine Go.condNt rfl (fun _ => ?_) (fun _ => ?_) | refine Go.block ?_ | refine Go.unblk ?_ | refine Go.skip ?_ | refine Go.retF rfl ?_ rfl | refine Go.endF rfl ?_ rfl | refine Go.retFm rfl rfl ?_ rfl | refine Go.endFm rfl rfl ?_ rfl | refine Go.retI rfl ?_ | refine Go.retM rfl rfl ?_ ?_ rfl | refine Go.endM rfl rfl ?_ ?_ rfl | refine Go.retY rfl rfl rfl ?_ | refine Go.endY rfl rfl rfl ?_ | refine (Ops.val eF rfl rfl Zw (by exact Hop.ldFG eF rfl rfl rfl rfl rfl rfl rfl (fun _ => rfl) (by omega)) ?_) | refine Go.endI rfl ?_
 exact Go.retFc [_] rfl ⟨Hop.ldPG eF rfl rfl rfl rfl rfl rfl rfl, trivial⟩ rfl rfl
end Go.Px.De
end
section
set_option maxHeartbeats 4000000
set_option maxRecDepth 20000
namespace Go.Px.De
open Go.Proofs Go.Px.Ds
attribute [local irreducible] Go.Px.KOk
def itemP (d : Da) (k : Nat) : List AV := [.int .i64 k, .agg (encPt ((ptsE d).getD k default))]
def itemsP (d : Da) : List (List AV) := (List.range 7).map (itemP d)
theorem itemsP_at {d : Da} {j : Nat} {v : List AV} (h : (itemsP d)[j]? = some v) : j < 7 ∧ v = itemP d j := by
 unfold itemsP at h
 by_cases hj : j < 7
 ·rw [List.getElem?_map, List.getElem?_range hj] at h
  exact ⟨hj, (Option.some.inj h).symm⟩
 ·rw [List.getElem?_eq_none (by simp; omega)] at h; cases h
theorem itemsP_of {d : Da} {j : Nat} (hj : j < 7) : (itemsP d)[j]? = some (itemP d j) := by
 unfold itemsP
 rw [List.getElem?_map, List.getElem?_range hj]; rfl
theorem k59 (d : Da) : KOk cF 51 [.int .i64 1, .agg (encDa d)] (.fn (.func 61) [] [.rptr [.int .i64 1], .rptr (encDa d)]) := by
 refine KOk.of cF_ok eF.g Tryz.func51 rfl (Nat.le_of_ble_eq_true rfl) fun w F => ?_
 repeat' first | refine Go.seq ?_ | refine Go.region rfl ?_ | refine Ops.nil ?_ | refine Ops.val eF rfl rfl Zw (by first | exact Z1 | exact Y38) ?_ | refine Ops.boxR eF rfl rfl Zw rfl rfl rfl rfl ?_ | refine Go.retF rfl ?_ rfl
 all_goals rfl
noncomputable def r61_0 : List Oper := ((drawn (Tryz.f61.body.getD .skip))[0]?).getD []
theorem dr61_0 : chkOrd cF r61_0 [2, 3, 0, 1, 4, 5, 6, 7, 8, 9, 10] = true := by kernel_rfl
theorem it84 (d : Da) : KIt cF 61 [.rptr [.int .i64 1], .rptr (encDa d)] (itemsP d) := by
 have kf := k85 d
 let n61 : Ent cF := unitE (k61 d) rfl
 refine KIt.of cF_ok eF.g Tryz.func61 rfl rfl fun w F opn G gx hG => ?_
 repeat' first | refine Go.seq ?_ | refine Go.region rfl ?_ | refine Ops.nil ?_ | refine Ops.val eF rfl rfl Zw (by first | exact Z1 | exact Z5) ?_ | refine Ops.call eF rfl rfl Zw rfl rfl rfl rfl (kf) rfl ?_ | refine Go.block ?_
 refine Go.loop (fun i : Nat => [(0, .fn (.yield 1) [] []), (1, .rptr [.int .i64 1]), (2, .rptr (encDa d)), (4, .int .i64 i), (11, .agg ([nmP d.e, nmP d.a, sdP d.v].flatMap encPt)), (12, .int .i64 i)]) (fun i => hq 2 [.arr 0 i 0 [], .none]) (fun i => i ≤ 3) (fun i => 3 - i) 0 (Nat.zero_le _) Zt rfl (fun i hi ih => ?_)
 by_cases c0 : (i : Int) < 3
 ·have hi3 : i < 3 := by omega
  have eit : (itemsP d)[i]? = some [.int .i64 i, .agg (encPt ([nmP d.e, nmP d.a, sdP d.v].getD (i : Int).toNat default))] := by
   rw [itemsP_of (by omega)]
   match i, hi3 with
   | 0, _ => rfl
   | 1, _ => rfl
   | 2, _ => rfl
  repeat' first | refine Go.seq ?_ | refine Go.region rfl ?_ | refine Ops.nil ?_ | refine Ops.val eF rfl rfl Zw (Hop.aidx (n := 3) (z := 5) (enc := encPt) (l := [nmP d.e, nmP d.a, sdP d.v]) eF rfl rfl rfl rfl rfl rfl rfl rfl (fun _ => rfl) rfl ⟨by omega, by show (i : Int) < 3; omega⟩) ?_ | refine Ops.yieldJ eF Zw rfl rfl rfl rfl rfl rfl rfl (by rw [hG]; exact eit) rfl rfl ?_ ?_ | refine Ops.val eF rfl rfl Zw (by first | exact Z1 | exact Z2 | exact Z3 | exact Y14 | exact Z5) ?_ | refine Ops.rowAt eF 2 rfl rfl Zw rfl (Hop.alloc eF rfl rfl rfl) ?_ | refine Ops.unit eF rfl Zw (Hop.store eF rfl rfl rfl rfl rfl rfl) (ArrKeep.put rfl) ?_ | refine Go.condT rfl ?_ | refine Go.condF rfl ?_ | refine Go.condTt rfl Za ?_ | refine Go.block ?_ | refine Go.unblk ?_ | refine Go.skip ?_ | refine Go.retY rfl rfl rfl ?_
  ·exact Go.toQ (ih (i + 1) (by omega) (by omega)) rfl eF.g Zt rfl rfl Zg Zl rfl rfl
  ·exact .inr (by rw [hG])
 ·have ei : i = 3 := by omega
  subst ei
  repeat' first | refine Go.seq ?_ | refine Go.region rfl ?_ | refine Ops.nil ?_ | refine Ops.val eF rfl rfl Zw Z3 ?_ | refine Go.condFt rfl Za ?_ | refine Go.exit rfl ?_
  refine Go.draw eF hm [n61] [2, 3, 0, 1, 4, 5, 6, 7, 8, 9, 10] dr61_0 ?_
  repeat' first | refine Dr.nil ?_ | refine Dr.light rfl rfl rfl rfl Zw (Hop.lenH eF rfl rfl rfl rfl rfl rfl rfl) ?_ | refine Dr.pure rfl rfl rfl rfl Zw (by first | exact Z1 | exact Z4 | exact Z5) ?_ | refine Dr.light rfl rfl rfl rfl Zw Z5 ?_ | refine Dr.call rfl rfl rfl rfl Zw rfl rfl rfl rfl (by first | exact pans_hd () rfl rfl) ?_ | refine Dr.slAt 2 rfl rfl rfl rfl Zw rfl (Hop.bslice eF rfl rfl rfl rfl rfl rfl rfl rfl rfl rfl rfl) ?_
  refine Go.change (Chg.frzR 31 rfl rfl rfl rfl (by repeat' first | exact trivial | refine And.intro ?_ ?_ | exact .inr trivial | exact .inr rfl | exact .inl rfl) rfl rfl rfl) ?_
  repeat' first | refine Go.block ?_
  refine Go.toHQ (N := 2) (bs := [.arr 0 3 0 [], .none]) (L' := [(0, .fn (.yield 1) [] []), (2, .rptr (encDa d)), (4, .int .i64 ((3 : Nat) : Int)), (31, dsl 1 encI [d.t, addN d, d.fr, d.to]), (32, .int .i64 4), (33, .int .i64 0)]) ?_ rfl eF.g Zt rfl rfl Zg Zl rfl rfl
  refine Go.loop (fun i : Nat => [(0, .fn (.yield 1) [] []), (2, .rptr (encDa d)), (4, .int .i64 ((3 + i : Nat) : Int)), (31, dsl 1 encI [d.t, addN d, d.fr, d.to]), (32, .int .i64 4), (33, .int .i64 i)]) (fun i => hq 2 [.arr 0 (3 + i) 0 [], .none]) (fun i => i ≤ 4) (fun i => 4 - i) 0 (Nat.zero_le _) Zt rfl (fun i hi ih => ?_)
  by_cases c1 : (i : Int) < 4
  ·have hi4 : i < 4 := by omega
   have hil : i < [d.t, addN d, d.fr, d.to].length := hi4
   have kn := k86 ([d.t, addN d, d.fr, d.to].getD (i : Int).toNat default)
   have eit : (itemsP d)[3 + i]? = some [.int .i64 ((3 + i : Nat) : Int), .agg (encPt (nmP ([d.t, addN d, d.fr, d.to].getD (i : Int).toNat default)))] := by
    rw [itemsP_of (by omega)]
    match i, hi4 with
    | 0, _ => rfl
    | 1, _ => rfl
    | 2, _ => rfl
    | 3, _ => rfl
   repeat' first | refine Go.seq ?_ | refine Go.region rfl ?_ | refine Ops.nil ?_ | refine Ops.yieldJ eF Zw rfl rfl rfl rfl rfl rfl rfl (by rw [hG]; exact eit) rfl rfl ?_ ?_ | refine Ops.val eF rfl rfl Zw (by first | exact Z1 | exact Z2 | exact Z3 | exact Y14 | exact Y24 | exact Z5) ?_ | refine Ops.call eF rfl rfl Zw rfl rfl rfl rfl (kn) rfl ?_ | refine Go.condT rfl ?_ | refine Go.condF rfl ?_ | refine Go.condTt rfl Za ?_ | refine Go.block ?_ | refine Go.unblk ?_ | refine Go.skip ?_ | refine Go.retY rfl rfl rfl ?_
   ·exact Go.toQ (ih (i + 1) (by omega) (by omega)) rfl eF.g Zt rfl rfl Zg Zl rfl rfl
   ·exact .inr (by rw [hG])
  ·have ei : i = 4 := by omega
   subst ei
   repeat' first | refine Go.seq ?_ | refine Go.region rfl ?_ | refine Ops.nil ?_ | refine Ops.val eF rfl rfl Zw Z3 ?_ | refine Go.condFt rfl Za ?_ | refine Go.exit rfl ?_ | refine Go.endY rfl rfl rfl ?_
   exact .inl (by simp [itemsP])
end Go.Px.De
end
section
set_option maxHeartbeats 4000000
set_option maxRecDepth 20000
namespace Go.Px.De
open Go.Proofs Go.Px.Ds
attribute [local irreducible] Go.Px.KOk
theorem take_succ' {α : Type} [Inhabited α] : ∀ {l : List α} {i : Nat}, i < l.length → l.take (i + 1) = l.take i ++ [l.getD i default]
 | a :: l, 0, _ => by simp
 | a :: l, i + 1, h => by
  have := take_succ' (l := l) (i := i) (by simpa using h)
  simp [this]
theorem k56 (d : Da) : KOk cF 50 [.int .i64 1, .agg (encDa d)] (ptsA (ptsE d)) := by
 have k1 := k59 d
 refine KOk.of cF_ok eF.g Tryz.func50 rfl (Nat.le_of_ble_eq_true rfl) fun w F => ?_
 repeat' first | refine Go.seq ?_ | refine Go.region rfl ?_ | refine Ops.nil ?_ | refine Ops.boxR eF rfl rfl Zw rfl rfl rfl rfl ?_ | refine Ops.val eF rfl rfl Zw (by first | exact Z1 | exact Z5) ?_ | refine Ops.call eF rfl rfl Zw rfl rfl rfl rfl (k1) rfl ?_ | refine Ops.rowAt eF 0 rfl rfl Zw rfl (Hop.alloc eF rfl rfl rfl) ?_ | refine Go.block ?_
 refine Go.change (Chg.tokCell 1 0 105 5 rfl rfl rfl) ?_
 refine Go.to (M := [(5, .ptr 0 0), (10, .fn (.func 61) [] [.rptr [.int .i64 1], .rptr (encDa d)])]) ?_ Zt
 refine Go.rangeK eF 2 rfl rfl rfl (it84 d) rfl (fun j => hq 3 [.row ⟨96, 1, .leaf, [.own 1 ((ptsE d).take j).length 5], none⟩, .arr 105 5 ((ptsE d).take j).length (((ptsE d).take j).flatMap encPt), .dfr true])
  (fun b => ChgE.cut _ rfl eF.g rfl Zg Zl) (fun j v hv => by rw [(itemsP_at hv).2]; rfl) rfl (fun j v hv b2 => ?_) ?_
 ·obtain ⟨hj, rfl⟩ := itemsP_at hv
  have hjl : j < (ptsE d).length := hj
  have ea := take_succ' hjl
  have hlen : ((ptsE d).take j).length ≤ 7 := by rw [List.length_take]; exact Nat.min_le_right _ _
  repeat' first | refine Go.region rfl ?_ | refine Ops.nil ?_ | refine Ops.rowAt eF 3 rfl rfl Zw rfl (Hop.alloc eF rfl rfl rfl) ?_ | refine Ops.unit eF rfl Zw (Hop.store eF rfl rfl rfl rfl rfl rfl) (ArrKeep.put rfl) ?_
  refine Go.bodyK (fun b3 => ?_)
  repeat' first | refine Go.region rfl ?_ | refine Ops.nil ?_ | refine Ops.val eF rfl rfl Zw Z5 ?_ | refine Ops.data eF rfl rfl Zw rfl (Hop.bslice eF rfl rfl rfl rfl rfl rfl rfl rfl rfl rfl rfl) rfl rfl ?_ | refine Ops.appendE eF rfl rfl Zw rfl rfl rfl rfl rfl rfl rfl rfl rfl rfl rfl rfl rfl rfl rfl rfl Zi rfl rfl rfl rfl rfl Zz (by omega) ?_ | refine Ops.unit eF rfl Zw (Hop.store eF rfl rfl rfl rfl rfl rfl) (ArrKeep.put rfl) ?_ | refine Go.block ?_ | refine Go.unblk ?_
  refine Go.nextK ?_
  rw [ea, List.length_append, List.flatMap_append]
  exact ChgE.cut _ rfl eF.g rfl Zg Zl
 ·rw [show (itemsP d).length = (ptsE d).length by simp [itemsP, ptsE], List.take_length]
  refine Go.unblk ?_
  refine Go.change (Chg.cellFrz 0 1 rfl rfl (by repeat' first | exact trivial | exact .inl rfl | exact .inr trivial | exact .inr (ind_row rfl rfl) | refine And.intro ?_ ?_) rfl rfl rfl) ?_
  repeat' first | refine Go.seq ?_ | refine Go.region rfl ?_ | refine Ops.nil ?_ | refine Ops.val eF rfl rfl Zw (by first | exact Z1 | exact Z5) ?_ | refine Go.retFm rfl rfl ?_ rfl
  all_goals rfl
theorem k90 (a b : Pt) : KOk cF 52 [.agg (encPt a), .agg (encPt b)] (.int .i64 (cmpPt a b)) := by
 have k1 := k36 a.v b.v
 have k2 := k35 a.n b.n
 refine KOk.of cF_ok eF.g Tryz.func52 rfl (Nat.le_of_ble_eq_true rfl) fun w F => ?_
 obtain ⟨av, an, avv⟩ := a
 obtain ⟨bv, bn, bvv⟩ := b
 cases av with
 | true =>
  repeat' first | refine Go.seq ?_ | refine Go.region rfl ?_ | refine Ops.nil ?_ | refine Ops.val eF rfl rfl Zw (by first | exact Z1 | exact Z4 | exact Z5) ?_ | refine Ops.call eF rfl rfl Zw rfl rfl rfl rfl (k1) rfl ?_ | refine Ops.boxR eF rfl rfl Zw rfl rfl rfl rfl ?_ | refine Go.condT rfl ?_ | refine Go.retF rfl ?_ rfl
  all_goals rfl
 | false =>
  repeat' first | refine Go.seq ?_ | refine Go.region rfl ?_ | refine Ops.nil ?_ | refine Ops.val eF rfl rfl Zw (by first | exact Z1 | exact Z4 | exact Z5) ?_ | refine Ops.call eF rfl rfl Zw rfl rfl rfl rfl (k2) rfl ?_ | refine Ops.boxR eF rfl rfl Zw rfl rfl rfl rfl ?_ | refine Go.condF rfl ?_ | refine Go.skip ?_ | refine Go.retF rfl ?_ rfl
  all_goals rfl
end Go.Px.De
end
section
set_option maxHeartbeats 4000000
set_option maxRecDepth 20000
namespace Go.Px.De
open Go.Proofs Go.Px.Ds
attribute [local irreducible] Go.Px.KOk
noncomputable def cmpAt (a b : Da) (k : Nat) : Int := cmpPt ((ptsE a).getD k default) ((ptsE b).getD k default)
theorem orI_none : ∀ {l : List Int}, (∀ x ∈ l, x = 0) → orI l = 0
 | [], _ => rfl
 | x :: r, h => by
  have h0 := h x List.mem_cons_self
  have := orI_none (l := r) fun y hy => h y (List.mem_cons_of_mem _ hy)
  subst h0
  simpa [orI] using this
theorem orI_some : ∀ {l : List Int} {j : Nat} {x : Int}, (∀ k, k < j → l[k]? = some 0) → l[j]? = some x → x ≠ 0 → orI l = x
 | [], j, x, _, h, _ => by simp at h
 | y :: r, 0, x, _, h, hx => by
  simp only [List.getElem?_cons_zero, Option.some.injEq] at h
  subst h
  simp [orI, hx]
 | y :: r, j + 1, x, h0, h, hx => by
  have hy := h0 0 (Nat.succ_pos _)
  simp only [List.getElem?_cons_zero, Option.some.injEq] at hy
  subst hy
  have := orI_some (l := r) (j := j) (x := x) (fun k hk => by simpa using h0 (k + 1) (Nat.succ_lt_succ hk)) (by simpa using h) hx
  simpa [orI] using this
noncomputable def r41_0 : List Oper := ((drawn (Tryz.f41.body.getD .skip))[0]?).getD []
theorem dr41_0 : chkOrd cF r41_0 [0, 1, 2, 3, 4, 5, 6] = true := by kernel_rfl
theorem k65 (a b : Da) : KOk cF 41 [.int .i64 1, .agg (encDa a), .agg (encDa b)] (.int .i64 (cmpDa a b)) := by
 have k1 := k52
 have k2 := k56 b
 have k3 := k59 a
 refine KOk.of cF_ok eF.g Tryz.func41 rfl (Nat.le_of_ble_eq_true rfl) fun w F => ?_
 repeat' first | refine Go.seq ?_ | refine Go.region rfl ?_ | refine Ops.nil ?_ | refine Ops.boxR eF rfl rfl Zw rfl rfl rfl rfl ?_ | refine Ops.val eF rfl rfl Zw (by first | exact Z1 | exact Z2 | exact Z5) ?_ | refine Ops.call eF rfl rfl Zw rfl rfl rfl rfl (k1) rfl ?_ | refine Ops.call eF rfl rfl Zw rfl rfl rfl rfl (k2) rfl ?_ | refine Ops.call eF rfl rfl Zw rfl rfl rfl rfl (k3) rfl ?_ | refine Ops.rowAt eF 0 rfl rfl Zw rfl (Hop.alloc eF rfl rfl rfl) ?_ | refine Ops.rowAt eF 1 rfl rfl Zw rfl (Hop.alloc eF rfl rfl rfl) ?_ | refine Ops.unit eF rfl Zw (Hop.store eF rfl rfl rfl rfl rfl rfl) (ArrKeep.put rfl) ?_ | refine Go.condF rfl ?_ | refine Go.block ?_ | refine Go.skip ?_ | refine Go.scope ?_ | refine Go.label ?_
 refine Go.to (M := [(7, .ptr 0 0), (8, .ptr 1 0), (20, .fn (.func 61) [] [.rptr [.int .i64 1], .rptr (encDa a)])]) ?_ Zt
 refine Go.rangeP eF 2 rfl rfl rfl (it84 a) rfl (fun j => ∀ k, k < j → cmpAt a b k = 0) (fun j => hq 3 [.row ⟨3, 1, .leaf, [.int .i64 0], none⟩, .row ⟨96, 1, .leaf, [ptsA (ptsE b)], none⟩, .dfr true]) (fun k hk => absurd hk (Nat.not_lt_zero _))
  (fun b => ChgE.cut _ rfl eF.g rfl Zg Zl) (fun j v hv => by rw [(itemsP_at hv).2]; rfl) rfl (fun j v hv hP b2 => ?_) rfl (fun hP => ?_)
 ·obtain ⟨hj, rfl⟩ := itemsP_at hv
  have hjl : j < (ptsE b).length := hj
  let n90 : Ent cF := unitE (k90 ((ptsE a).getD j default) ((ptsE b).getD j default)) rfl
  repeat' first | refine Go.seq ?_ | refine Go.region rfl ?_ | refine Ops.nil ?_ | refine Ops.val eF rfl rfl Zw Z1 ?_ | refine Ops.rowAt eF 3 rfl rfl Zw rfl (Hop.alloc eF rfl rfl rfl) ?_ | refine Ops.unit eF rfl Zw (Hop.store eF rfl rfl rfl rfl rfl rfl) (ArrKeep.put rfl) ?_
  refine Go.bodyK (fun b3 => ?_)
  repeat' first | refine Go.seq ?_ | refine Go.block ?_
  refine Go.draw eF hm [n90] [0, 1, 2, 3, 4, 5, 6] dr41_0 ?_
  repeat' first | refine Dr.nil ?_ | refine Dr.pure rfl rfl rfl rfl Zw (by first | exact Z1 | exact Y24 | exact Z5) ?_ | refine Dr.light rfl rfl rfl rfl Zw Z5 ?_ | refine Dr.call rfl rfl rfl rfl Zw rfl rfl rfl rfl (by first | exact pans_hd () rfl rfl) ?_ | refine Dr.store rfl rfl rfl Zw (Hop.store eF rfl rfl rfl rfl rfl rfl) (ArrKeep.put rfl) rfl ?_
  repeat' first | refine Go.seq ?_ | refine Go.region rfl ?_ | refine Ops.nil ?_ | refine Ops.val eF rfl rfl Zw (by first | exact Z3 | exact Z5) ?_ | refine Go.condNt rfl (fun _ => ?_) (fun _ => ?_) | refine Go.unblk ?_ | refine Go.skip ?_
  ·rename_i q
   refine Go.stopX rfl rfl ?_
   have e : cmpDa a b = cmpAt a b j := orI_some (l := (List.range 7).map (cmpAt a b)) (j := j) (fun k hk => by rw [List.getElem?_map, List.getElem?_range (by omega)]; exact congrArg some (hP k hk)) (by rw [List.getElem?_map, List.getElem?_range hj]; rfl) q
   repeat' first | refine Go.seq ?_ | refine Go.region rfl ?_ | refine Ops.nil ?_ | refine Ops.val eF rfl rfl Zw (by first | exact Z1 | exact Z5) ?_ | refine Go.retFm rfl rfl ?_ rfl
   all_goals exact congrArg (AV.int .i64) e.symm
  ·rename_i q
   have e : n90.out () = AV.int .i64 0 := congrArg (AV.int .i64) q
   refine Go.nextK ?_
   rw [HP_t (fun k hk => by rcases Nat.lt_succ_iff_lt_or_eq.1 hk with r | r; exact hP k r; subst r; exact q)]
   simp only [e]
   exact ChgE.cut _ rfl eF.g rfl Zg Zl
 ·have e : cmpDa a b = 0 := orI_none (l := (List.range 7).map (cmpAt a b)) fun x hx => by
   obtain ⟨k, hk, rfl⟩ := List.mem_map.1 hx
   exact hP k (by simpa [itemsP] using List.mem_range.1 hk)
  repeat' first | refine Go.seq ?_ | refine Go.region rfl ?_ | refine Ops.nil ?_ | refine Ops.val eF rfl rfl Zw (by first | exact Z1 | exact Z5) ?_ | refine Go.unblk ?_ | refine Go.retFm rfl rfl ?_ rfl
  all_goals (rw [e]; rfl)
end Go.Px.De
end
