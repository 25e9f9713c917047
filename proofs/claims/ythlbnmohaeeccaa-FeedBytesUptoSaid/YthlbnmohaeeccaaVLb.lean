/- Parts of the proof in YthlbnmohaeeccaaVFin: FeB, FeC, FeD, FeU, FeV, FeO, FeW, FeX. -/
import Derived.Test.YthlbnmohaeeccaaVLa
import Derived.Test.YthlbnmohaeeccaaVK4
set_option linter.unusedVariables false
set_option linter.unusedSimpArgs false
section
set_option maxHeartbeats 4000000
set_option maxRecDepth 20000
namespace Go.Px.Fe
open Go.Proofs Go.Px.Fs
attribute [local irreducible] Go.Px.KOk
theorem k86 (n : Int) : KOk cF 86 [.int .i64 n] (.agg (encPt (nmP n))) := by
 refine KOk.of cF_ok eF.g Try.func86 rfl (Nat.le_of_ble_eq_true rfl) fun w F => ?_
 repeat' first | refine Go.seq ?_ | refine Go.region rfl ?_ | refine Ops.nil ?_ | refine Ops.val eF rfl rfl Zw (by first | exact Z1 | exact Y36) ?_ | refine Ops.rowAt eF 0 rfl rfl Zw rfl (Hop.alloc eF rfl rfl rfl) ?_ | refine Ops.unit eF rfl Zw (Hop.store eF rfl rfl rfl rfl rfl rfl) (ArrKeep.put rfl) ?_
 exact Go.retFc [_] rfl ⟨Hop.ldPG eF rfl rfl rfl rfl rfl rfl rfl, trivial⟩ rfl rfl
theorem k105 (v : Va) : KOk cF 105 [.agg (encVa v)] (.agg (encPt (sdP v))) := by
 refine KOk.of cF_ok eF.g Try.func105 rfl (Nat.le_of_ble_eq_true rfl) fun w F => ?_
 repeat' first | refine Go.seq ?_ | refine Go.region rfl ?_ | refine Ops.nil ?_ | refine Ops.val eF rfl rfl Zw (by first | exact Z5 | exact Y36) ?_ | refine Ops.rowAt eF 0 rfl rfl Zw rfl (Hop.boxC rfl rfl rfl) ?_ | refine Ops.rowAt eF 1 rfl rfl Zw rfl (Hop.alloc eF rfl rfl rfl) ?_ | refine Ops.unit eF rfl Zw (Hop.store eF rfl rfl rfl rfl rfl rfl) (ArrKeep.put rfl) ?_
 exact Go.retFc [_] rfl ⟨Hop.ldPG eF rfl rfl rfl rfl rfl rfl rfl, trivial⟩ rfl rfl
theorem k61 (d : Da) : KOk cF 61 [.agg (encDa d)] (.int .i64 (addN d)) := by
 refine KOk.of cF_ok eF.g Try.func61 rfl (Nat.le_of_ble_eq_true rfl) fun w F => ?_
 obtain ⟨e, a, v, t, add, fr, to⟩ := d
 cases add with
 | true =>
  repeat' first | refine Go.seq ?_ | refine Go.region rfl ?_ | refine Ops.nil ?_ | refine Ops.val eF rfl rfl Zw (by first | exact Z1 | exact Z4 | exact Z5) ?_ | refine Ops.boxR eF rfl rfl Zw rfl rfl rfl rfl ?_ | refine Go.condT rfl ?_ | refine Go.retF rfl ?_ rfl
  all_goals rfl
 | false =>
  repeat' first | refine Go.seq ?_ | refine Go.region rfl ?_ | refine Ops.nil ?_ | refine Ops.val eF rfl rfl Zw (by first | exact Z1 | exact Z4 | exact Z5) ?_ | refine Ops.boxR eF rfl rfl Zw rfl rfl rfl rfl ?_ | refine Go.condF rfl ?_ | refine Go.skip ?_ | refine Go.retF rfl ?_ rfl
  all_goals rfl
theorem k52 : KOk cF 52 [.int .i64 1] (.bool true) := by
 refine KOk.of cF_ok eF.g Try.func52 rfl (Nat.le_of_ble_eq_true rfl) fun w F => ?_
 repeat' first | refine Go.seq ?_ | refine Go.region rfl ?_ | refine Ops.nil ?_ | refine Ops.val eF rfl rfl Zw (by first | exact Z1 | exact Z2 | exact Z3) ?_ | refine Ops.gT rfl rfl Za ?_ | refine Go.retF rfl ?_ rfl
 all_goals first
  | exact congrArg AV.bool (bd_of (by decide))
  | exact absurd (by decide) (by assumption)
def unitE {f : FuncId} {us : List AV} {v : AV} (k : KOk cF f us v) (h : datsB us = true) : Ent cF := ⟨f, Unit, fun _ => us, fun _ => v, fun _ => k, fun _ => h, fun _ _ _ => rfl⟩
def n86 : Ent cF := ⟨86, Int, fun n => [.int .i64 n], fun n => .agg (encPt (nmP n)), k86, fun _ => rfl, fun a b h => by cases h; rfl⟩
noncomputable def r85_0 : List Oper := ((drawn (Try.f85.body.getD .skip))[0]?).getD []
theorem dr85_0 : chkOrd cF r85_0 [0, 1, 2, 3, 4, 5, 6, 7, 8, 9, 10] = true := by kernel_rfl
theorem k85 (d : Da) : KOk cF 85 [.int .i64 1, .agg (encDa d)] (.agg ([nmP d.e, nmP d.a, sdP d.v].flatMap encPt)) := by
 refine KOk.of cF_ok eF.g Try.func85 rfl (Nat.le_of_ble_eq_true rfl) fun w F => ?_
 let nv : Ent cF := unitE (k105 d.v) rfl
 repeat' first | refine Go.seq ?_ | refine Go.region rfl ?_ | refine Ops.nil ?_ | refine Ops.val eF rfl rfl Zw (by first | exact Z1 | exact Z3) ?_ | refine Ops.rowAt eF 0 rfl rfl Zw rfl (Hop.boxC rfl rfl rfl) ?_ | refine Ops.rowAt eF 1 rfl rfl Zw rfl (Hop.alloc eF rfl rfl rfl) ?_ | refine Go.condTt rfl Za ?_ | refine Go.block ?_
 refine Go.draw eF hm [n86, nv] [0, 1, 2, 3, 4, 5, 6, 7, 8, 9, 10] dr85_0 ?_
 repeat' first | refine Dr.nil ?_ | refine Dr.pure rfl rfl rfl rfl Zw (Hop.buildA eF rfl rfl rfl rfl rfl rfl rfl) ?_ | refine Dr.pure rfl rfl rfl rfl Zw (by first | exact Z4 | exact Z5) ?_ | refine Dr.light rfl rfl rfl rfl Zw Z5 ?_ | refine Dr.call rfl rfl rfl rfl Zw rfl rfl rfl rfl (by first | exact pans_hd _ rfl rfl | exact pans_tl rfl (pans_hd () rfl rfl)) ?_ | refine Dr.store rfl rfl rfl Zw (Hop.store eF rfl rfl rfl rfl rfl rfl) (ArrKeep.put rfl) rfl ?_
 repeat' first | refine Go.seq ?_ | refine Go.region rfl ?_ | refine Ops.nil ?_ | refine Ops.val eF rfl rfl Zw (by first | exact Z1 | exact Z3 | exact Y12 | exact Z4 | exact Z5 | exact Y31 | exact Y36) ?_ | refine Ops.rowAt eF 0 rfl rfl Zw rfl (Hop.boxC rfl rfl rfl) ?_ | refine Ops.rowAt eF 1 rfl rfl Zw rfl (Hop.boxC rfl rfl rfl) ?_ | refine Ops.rowAt eF 2 rfl rfl Zw rfl (Hop.boxC rfl rfl rfl) ?_ | refine Ops.rowAt eF 3 rfl rfl Zw rfl (Hop.boxC rfl rfl rfl) ?_ | refine Ops.rowAt eF 4 rfl rfl Zw rfl (Hop.boxC rfl rfl rfl) ?_ | refine Ops.rowAt eF 5 rfl rfl Zw rfl (Hop.boxC rfl rfl rfl) ?_ | refine Ops.rowAt eF 6 rfl rfl Zw rfl (Hop.boxC rfl rfl rfl) ?_ | refine Ops.rowAt eF 7 rfl rfl Zw rfl (Hop.boxC rfl rfl rfl) ?_ | refine Ops.rowAt eF 8 rfl rfl Zw rfl (Hop.boxC rfl rfl rfl) ?_ | refine Ops.rowAt eF 0 rfl rfl Zw rfl (Hop.alloc eF rfl rfl rfl) ?_ | refine Ops.rowAt eF 1 rfl rfl Zw rfl (Hop.alloc eF rfl rfl rfl) ?_ | refine Ops.rowAt eF 2 rfl rfl Zw rfl (Hop.alloc eF rfl rfl rfl) ?_ | refine Ops.rowAt eF 3 rfl rfl Zw rfl (Hop.alloc eF rfl rfl rfl) ?_ | refine Ops.rowAt eF 4 rfl rfl Zw rfl (Hop.alloc eF rfl rfl rfl) ?_ | refine Ops.rowAt eF 5 rfl rfl Zw rfl (Hop.alloc eF rfl rfl rfl) ?_ | refine Ops.rowAt eF 6 rfl rfl Zw rfl (Hop.alloc eF rfl rfl rfl) ?_ | refine Ops.rowAt eF 7 rfl rfl Zw rfl (Hop.alloc eF rfl rfl rfl) ?_ | refine Ops.rowAt eF 8 rfl rfl Zw rfl (Hop.alloc eF rfl rfl rfl) ?_ | refine Ops.unit eF rfl Zw (Hop.store eF rfl rfl rfl rfl rfl rfl) (ArrKeep.put rfl) ?_ | refine Go.condT rfl ?_ | refine Go.condF rfl ?_ | refine Go.condTt rfl Za ?_ | refine Go.condFt rfl Za ?_ | refine Go.condPt rfl (fun _ => ?_) (fun _ => ?_) | refine Go.condNt rfl (fun _ => ?_) (fun _ => ?_) | refine Go.block ?_ | refine Go.unblk ?_ | refine Go.skip ?_ | refine Go.retF rfl ?_ rfl | refine Go.endF rfl ?_ rfl | refine Go.retFm rfl rfl ?_ rfl | refine Go.endFm rfl rfl ?_ rfl | refine Go.retI rfl ?_ | refine Go.retM rfl rfl ?_ ?_ rfl | refine Go.endM rfl rfl ?_ ?_ rfl | refine Go.retY rfl rfl rfl ?_ | refine Go.endY rfl rfl rfl ?_ | refine (Ops.val eF rfl rfl Zw (by exact Hop.ldFG eF rfl rfl rfl rfl rfl rfl rfl (fun _ => rfl) (by omega)) ?_) | refine Go.endI rfl ?_
 exact Go.retFc [_] rfl ⟨Hop.ldPG eF rfl rfl rfl rfl rfl rfl rfl, trivial⟩ rfl rfl
end Go.Px.Fe
end
section
set_option maxHeartbeats 4000000
set_option maxRecDepth 20000
namespace Go.Px.Fe
open Go.Proofs Go.Px.Fs
attribute [local irreducible] Go.Px.KOk
def itemP (d : Da) (k : Nat) : List AV := [.int .i64 k, .agg (encPt ((ptsE d).getD k default))]
def itemsP (d : Da) : List (List AV) := (List.range 7).map (itemP d)
theorem itemsP_at {d : Da} {j : Nat} {v : List AV} (h : (itemsP d)[j]? = some v) : j < 7 ∧ v = itemP d j := by
 unfold itemsP at h
 by_cases hj : j < 7
 ·rw [List.getElem?_map, List.getElem?_range hj] at h
  exact ⟨hj, (Option.some.inj h).symm⟩
 ·rw [List.getElem?_eq_none (by simp; omega)] at h; cases h
theorem itemsP_of {d : Da} {j : Nat} (hj : j < 7) : (itemsP d)[j]? = some (itemP d j) := by
 unfold itemsP
 rw [List.getElem?_map, List.getElem?_range hj]; rfl
theorem k59 (d : Da) : KOk cF 59 [.int .i64 1, .agg (encDa d)] (.fn (.func 84) [] [.rptr [.int .i64 1], .rptr (encDa d)]) := by
 refine KOk.of cF_ok eF.g Try.func59 rfl (Nat.le_of_ble_eq_true rfl) fun w F => ?_
 repeat' first | refine Go.seq ?_ | refine Go.region rfl ?_ | refine Ops.nil ?_ | refine Ops.val eF rfl rfl Zw (by first | exact Z1 | exact Y38) ?_ | refine Ops.boxR eF rfl rfl Zw rfl rfl rfl rfl ?_ | refine Go.retF rfl ?_ rfl
 all_goals rfl
noncomputable def r84_0 : List Oper := ((drawn (Try.f84.body.getD .skip))[0]?).getD []
theorem dr84_0 : chkOrd cF r84_0 [2, 3, 0, 1, 4, 5, 6, 7, 8, 9, 10] = true := by kernel_rfl
theorem it84 (d : Da) : KIt cF 84 [.rptr [.int .i64 1], .rptr (encDa d)] (itemsP d) := by
 have kf := k85 d
 let n61 : Ent cF := unitE (k61 d) rfl
 refine KIt.of cF_ok eF.g Try.func84 rfl rfl fun w F opn G gx hG => ?_
 repeat' first | refine Go.seq ?_ | refine Go.region rfl ?_ | refine Ops.nil ?_ | refine Ops.val eF rfl rfl Zw (by first | exact Z1 | exact Z5) ?_ | refine Ops.call eF rfl rfl Zw rfl rfl rfl rfl (kf) rfl ?_ | refine Go.block ?_
 refine Go.loop (fun i : Nat => [(0, .fn (.yield 1) [] []), (1, .rptr [.int .i64 1]), (2, .rptr (encDa d)), (4, .int .i64 i), (11, .agg ([nmP d.e, nmP d.a, sdP d.v].flatMap encPt)), (12, .int .i64 i)]) (fun i => hq 2 [.arr 0 i 0 [], .none]) (fun i => i ≤ 3) (fun i => 3 - i) 0 (Nat.zero_le _) Zt rfl (fun i hi ih => ?_)
 by_cases c0 : (i : Int) < 3
 ·have hi3 : i < 3 := by omega
  have eit : (itemsP d)[i]? = some [.int .i64 i, .agg (encPt ([nmP d.e, nmP d.a, sdP d.v].getD (i : Int).toNat default))] := by
   rw [itemsP_of (by omega)]
   match i, hi3 with
   | 0, _ => rfl
   | 1, _ => rfl
   | 2, _ => rfl
  repeat' first | refine Go.seq ?_ | refine Go.region rfl ?_ | refine Ops.nil ?_ | refine Ops.val eF rfl rfl Zw (Hop.aidx (n := 3) (z := 5) (enc := encPt) (l := [nmP d.e, nmP d.a, sdP d.v]) eF rfl rfl rfl rfl rfl rfl rfl rfl (fun _ => rfl) rfl ⟨by omega, by show (i : Int) < 3; omega⟩) ?_ | refine Ops.yieldJ eF Zw rfl rfl rfl rfl rfl rfl rfl (by rw [hG]; exact eit) rfl rfl ?_ ?_ | refine Ops.val eF rfl rfl Zw (by first | exact Z1 | exact Z2 | exact Z3 | exact Y14 | exact Z5) ?_ | refine Ops.rowAt eF 2 rfl rfl Zw rfl (Hop.alloc eF rfl rfl rfl) ?_ | refine Ops.unit eF rfl Zw (Hop.store eF rfl rfl rfl rfl rfl rfl) (ArrKeep.put rfl) ?_ | refine Go.condT rfl ?_ | refine Go.condF rfl ?_ | refine Go.condTt rfl Za ?_ | refine Go.block ?_ | refine Go.unblk ?_ | refine Go.skip ?_ | refine Go.retY rfl rfl rfl ?_
  ·exact Go.toQ (ih (i + 1) (by omega) (by omega)) rfl eF.g Zt rfl rfl Zg Zl rfl rfl
  ·exact .inr (by rw [hG])
 ·have ei : i = 3 := by omega
  subst ei
  repeat' first | refine Go.seq ?_ | refine Go.region rfl ?_ | refine Ops.nil ?_ | refine Ops.val eF rfl rfl Zw Z3 ?_ | refine Go.condFt rfl Za ?_ | refine Go.exit rfl ?_
  refine Go.draw eF hm [n61] [2, 3, 0, 1, 4, 5, 6, 7, 8, 9, 10] dr84_0 ?_
  repeat' first | refine Dr.nil ?_ | refine Dr.light rfl rfl rfl rfl Zw (Hop.lenH eF rfl rfl rfl rfl rfl rfl rfl) ?_ | refine Dr.pure rfl rfl rfl rfl Zw (by first | exact Z1 | exact Z4 | exact Z5) ?_ | refine Dr.light rfl rfl rfl rfl Zw Z5 ?_ | refine Dr.call rfl rfl rfl rfl Zw rfl rfl rfl rfl (by first | exact pans_hd () rfl rfl) ?_ | refine Dr.slAt 2 rfl rfl rfl rfl Zw rfl (Hop.bslice eF rfl rfl rfl rfl rfl rfl rfl rfl rfl rfl rfl) ?_
  refine Go.change (Chg.frzR 31 rfl rfl rfl rfl (by repeat' first | exact trivial | refine And.intro ?_ ?_ | exact .inr trivial | exact .inr rfl | exact .inl rfl) rfl rfl rfl) ?_
  repeat' first | refine Go.block ?_
  refine Go.toHQ (N := 2) (bs := [.arr 0 3 0 [], .none]) (L' := [(0, .fn (.yield 1) [] []), (2, .rptr (encDa d)), (4, .int .i64 ((3 : Nat) : Int)), (31, dsl 1 encI [d.t, addN d, d.fr, d.to]), (32, .int .i64 4), (33, .int .i64 0)]) ?_ rfl eF.g Zt rfl rfl Zg Zl rfl rfl
  refine Go.loop (fun i : Nat => [(0, .fn (.yield 1) [] []), (2, .rptr (encDa d)), (4, .int .i64 ((3 + i : Nat) : Int)), (31, dsl 1 encI [d.t, addN d, d.fr, d.to]), (32, .int .i64 4), (33, .int .i64 i)]) (fun i => hq 2 [.arr 0 (3 + i) 0 [], .none]) (fun i => i ≤ 4) (fun i => 4 - i) 0 (Nat.zero_le _) Zt rfl (fun i hi ih => ?_)
  by_cases c1 : (i : Int) < 4
  ·have hi4 : i < 4 := by omega
   have hil : i < [d.t, addN d, d.fr, d.to].length := hi4
   have kn := k86 ([d.t, addN d, d.fr, d.to].getD (i : Int).toNat default)
   have eit : (itemsP d)[3 + i]? = some [.int .i64 ((3 + i : Nat) : Int), .agg (encPt (nmP ([d.t, addN d, d.fr, d.to].getD (i : Int).toNat default)))] := by
    rw [itemsP_of (by omega)]
    match i, hi4 with
    | 0, _ => rfl
    | 1, _ => rfl
    | 2, _ => rfl
    | 3, _ => rfl
   repeat' first | refine Go.seq ?_ | refine Go.region rfl ?_ | refine Ops.nil ?_ | refine Ops.yieldJ eF Zw rfl rfl rfl rfl rfl rfl rfl (by rw [hG]; exact eit) rfl rfl ?_ ?_ | refine Ops.val eF rfl rfl Zw (by first | exact Z1 | exact Z2 | exact Z3 | exact Y14 | exact Y24 | exact Z5) ?_ | refine Ops.call eF rfl rfl Zw rfl rfl rfl rfl (kn) rfl ?_ | refine Go.condT rfl ?_ | refine Go.condF rfl ?_ | refine Go.condTt rfl Za ?_ | refine Go.block ?_ | refine Go.unblk ?_ | refine Go.skip ?_ | refine Go.retY rfl rfl rfl ?_
   ·exact Go.toQ (ih (i + 1) (by omega) (by omega)) rfl eF.g Zt rfl rfl Zg Zl rfl rfl
   ·exact .inr (by rw [hG])
  ·have ei : i = 4 := by omega
   subst ei
   repeat' first | refine Go.seq ?_ | refine Go.region rfl ?_ | refine Ops.nil ?_ | refine Ops.val eF rfl rfl Zw Z3 ?_ | refine Go.condFt rfl Za ?_ | refine Go.exit rfl ?_ | refine Go.endY rfl rfl rfl ?_
   exact .inl (by simp [itemsP])
end Go.Px.Fe
end
section
set_option maxHeartbeats 4000000
set_option maxRecDepth 20000
namespace Go.Px.Fe
open Go.Proofs Go.Px.Fs
attribute [local irreducible] Go.Px.KOk
theorem take_succ' {α : Type} [Inhabited α] : ∀ {l : List α} {i : Nat}, i < l.length → l.take (i + 1) = l.take i ++ [l.getD i default]
 | a :: l, 0, _ => by simp
 | a :: l, i + 1, h => by
  have := take_succ' (l := l) (i := i) (by simpa using h)
  simp [this]
theorem k56 (d : Da) : KOk cF 56 [.int .i64 1, .agg (encDa d)] (ptsA (ptsE d)) := by
 have k1 := k59 d
 refine KOk.of cF_ok eF.g Try.func56 rfl (Nat.le_of_ble_eq_true rfl) fun w F => ?_
 repeat' first | refine Go.seq ?_ | refine Go.region rfl ?_ | refine Ops.nil ?_ | refine Ops.boxR eF rfl rfl Zw rfl rfl rfl rfl ?_ | refine Ops.val eF rfl rfl Zw (by first | exact Z1 | exact Z5) ?_ | refine Ops.call eF rfl rfl Zw rfl rfl rfl rfl (k1) rfl ?_ | refine Ops.rowAt eF 0 rfl rfl Zw rfl (Hop.alloc eF rfl rfl rfl) ?_ | refine Go.block ?_
 refine Go.change (Chg.tokCell 1 0 108 5 rfl rfl rfl) ?_
 refine Go.to (M := [(5, .ptr 0 0), (10, .fn (.func 84) [] [.rptr [.int .i64 1], .rptr (encDa d)])]) ?_ Zt
 refine Go.rangeK eF 2 rfl rfl rfl (it84 d) rfl (fun j => hq 3 [.row ⟨95, 1, .leaf, [.own 1 ((ptsE d).take j).length 5], none⟩, .arr 108 5 ((ptsE d).take j).length (((ptsE d).take j).flatMap encPt), .dfr true])
  (fun b => ChgE.cut _ rfl eF.g rfl Zg Zl) (fun j v hv => by rw [(itemsP_at hv).2]; rfl) rfl (fun j v hv b2 => ?_) ?_
 ·obtain ⟨hj, rfl⟩ := itemsP_at hv
  have hjl : j < (ptsE d).length := hj
  have ea := take_succ' hjl
  have hlen : ((ptsE d).take j).length ≤ 7 := by rw [List.length_take]; exact Nat.min_le_right _ _
  repeat' first | refine Go.region rfl ?_ | refine Ops.nil ?_ | refine Ops.rowAt eF 3 rfl rfl Zw rfl (Hop.alloc eF rfl rfl rfl) ?_ | refine Ops.unit eF rfl Zw (Hop.store eF rfl rfl rfl rfl rfl rfl) (ArrKeep.put rfl) ?_
  refine Go.bodyK (fun b3 => ?_)
  repeat' first | refine Go.region rfl ?_ | refine Ops.nil ?_ | refine Ops.val eF rfl rfl Zw Z5 ?_ | refine Ops.data eF rfl rfl Zw rfl (Hop.bslice eF rfl rfl rfl rfl rfl rfl rfl rfl rfl rfl rfl) rfl rfl ?_ | refine Ops.appendE eF rfl rfl Zw rfl rfl rfl rfl rfl rfl rfl rfl rfl rfl rfl rfl rfl rfl rfl rfl Zi rfl rfl rfl rfl rfl Zz (by omega) ?_ | refine Ops.unit eF rfl Zw (Hop.store eF rfl rfl rfl rfl rfl rfl) (ArrKeep.put rfl) ?_ | refine Go.block ?_ | refine Go.unblk ?_
  refine Go.nextK ?_
  rw [ea, List.length_append, List.flatMap_append]
  exact ChgE.cut _ rfl eF.g rfl Zg Zl
 ·rw [show (itemsP d).length = (ptsE d).length by simp [itemsP, ptsE], List.take_length]
  refine Go.unblk ?_
  refine Go.change (Chg.cellFrz 0 1 rfl rfl (by repeat' first | exact trivial | exact .inl rfl | exact .inr trivial | exact .inr (ind_row rfl rfl) | refine And.intro ?_ ?_) rfl rfl rfl) ?_
  repeat' first | refine Go.seq ?_ | refine Go.region rfl ?_ | refine Ops.nil ?_ | refine Ops.val eF rfl rfl Zw (by first | exact Z1 | exact Z5) ?_ | refine Go.retFm rfl rfl ?_ rfl
  all_goals rfl
theorem k90 (a b : Pt) : KOk cF 90 [.agg (encPt a), .agg (encPt b)] (.int .i64 (cmpPt a b)) := by
 have k1 := k36 a.v b.v
 have k2 := k35 a.n b.n
 refine KOk.of cF_ok eF.g Try.func90 rfl (Nat.le_of_ble_eq_true rfl) fun w F => ?_
 obtain ⟨av, an, avv⟩ := a
 obtain ⟨bv, bn, bvv⟩ := b
 cases av with
 | true =>
  repeat' first | refine Go.seq ?_ | refine Go.region rfl ?_ | refine Ops.nil ?_ | refine Ops.val eF rfl rfl Zw (by first | exact Z1 | exact Z4 | exact Z5) ?_ | refine Ops.call eF rfl rfl Zw rfl rfl rfl rfl (k1) rfl ?_ | refine Ops.boxR eF rfl rfl Zw rfl rfl rfl rfl ?_ | refine Go.condT rfl ?_ | refine Go.retF rfl ?_ rfl
  all_goals rfl
 | false =>
  repeat' first | refine Go.seq ?_ | refine Go.region rfl ?_ | refine Ops.nil ?_ | refine Ops.val eF rfl rfl Zw (by first | exact Z1 | exact Z4 | exact Z5) ?_ | refine Ops.call eF rfl rfl Zw rfl rfl rfl rfl (k2) rfl ?_ | refine Ops.boxR eF rfl rfl Zw rfl rfl rfl rfl ?_ | refine Go.condF rfl ?_ | refine Go.skip ?_ | refine Go.retF rfl ?_ rfl
  all_goals rfl
end Go.Px.Fe
end
section
set_option maxHeartbeats 4000000
set_option maxRecDepth 20000
namespace Go.Px.Fe
open Go.Proofs Go.Px.Fs
attribute [local irreducible] Go.Px.KOk
def escC (c : UInt8) : Str := if c.toNat = 0 then [c, 255] else [c]
def esc (s : Str) : Str := s.flatMap escC
theorem escC_len (c : UInt8) : (escC c).length ≤ 2 := by unfold escC; split <;> simp
theorem esc_len : ∀ s : Str, (esc s).length ≤ 2 * s.length
 | [] => Nat.le_refl _
 | c :: r => by
  have := esc_len r
  have := escC_len c
  simp only [esc, List.flatMap_cons, List.length_append, List.length_cons] at *; omega
theorem esc_succ {s : Str} {i : Nat} (h : i < s.length) : esc (s.take (i + 1)) = esc (s.take i) ++ escC (s.getD i default) := by
 unfold esc; rw [take_succ' h, List.flatMap_append]; simp
theorem m104 (n : Nat) (cs : List AV) (s : Str) (hn : n ≤ 500000) (hs : s.length ≤ 100000) : KM cF 104 [.arr 5 1 n cs] [.own 0 n 1, sA s] (.own 0 (n + (esc s).length + 2) 1) [.arr 5 1 (n + (esc s).length + 2) (cs ++ (esc s).flatMap encB ++ [.int .u8 0, .int .u8 1])] := by
 refine KM.of (N := 1) (ab := [.arr 5 1 n cs]) (gv := []) cF_ok eF.g Try.func104 rfl rfl rfl rfl (Nat.le_of_ble_eq_true rfl) rfl rfl rfl rfl rfl rfl fun w F opn gx => ?_
 repeat' first | refine Go.seq ?_ | refine Go.region rfl ?_ | refine Ops.nil ?_ | refine Ops.val eF rfl rfl Zw (by first | exact Z1 | exact Z6) ?_ | refine Ops.bytes eF rfl rfl Zw rfl rfl rfl rfl rfl rfl rfl rfl ?_ | refine Go.block ?_
 refine Go.loop (fun i : Nat => [(0, .own 0 (n + (esc (s.take i)).length) 1), (8, dsl 1 encU s), (9, .int .i64 s.length), (10, .int .i64 i)]) (fun i => hq 1 [.arr 5 1 (n + (esc (s.take i)).length) (cs ++ (esc (s.take i)).flatMap encB)]) (fun i => i ≤ s.length) (fun i => s.length - i) 0 (Nat.zero_le _) Zt (by simp [esc]) (fun i hi ih => ?_)
 have hl := esc_len (s.take i)
 rw [List.length_take] at hl
 by_cases c0 : (i : Int) < (s.length : Int)
 ·have hlt : i < s.length := by omega
  have g := ih (i + 1) (by omega) (by omega)
  rw [esc_succ hlt] at g
  by_cases c1 : ((s.getD i default).toNat : Int) = 0
  ·have e1 : escC (s.getD i default) = [s.getD i default, 255] := if_pos (by omega)
   simp only [e1, List.length_append, List.length_cons, List.length_nil, Nat.zero_add, List.flatMap_append, List.flatMap_cons, List.flatMap_nil, List.append_nil, ← Nat.add_assoc, ← List.append_assoc] at g
   repeat' first | refine Go.seq ?_ | refine Go.region rfl ?_ | refine Ops.nil ?_ | refine Ops.val eF rfl rfl Zw (by first | exact Z1 | exact Z3 | exact Y14 | exact Y24 | exact Z5) ?_ | refine Ops.data eF rfl rfl Zw rfl (Hop.bslice eF rfl rfl rfl rfl rfl rfl rfl rfl rfl rfl rfl) rfl rfl ?_ | refine Ops.appendE eF rfl rfl Zw rfl rfl rfl rfl rfl rfl rfl rfl rfl rfl rfl rfl rfl rfl rfl rfl Zi rfl rfl rfl rfl rfl Zz (by omega) ?_ | refine Go.condTt rfl Za ?_ | refine Go.block ?_ | refine Go.unblk ?_ | refine Go.skip ?_
   all_goals try simp only [Int.toNat_natCast] at *
   ·exact Go.toQ g rfl eF.g Zt rfl rfl ⟨.inr rfl, trivial⟩ Zl rfl rfl
  ·have e1 : escC (s.getD i default) = [s.getD i default] := if_neg (by omega)
   simp only [e1, List.length_append, List.length_cons, List.length_nil, Nat.zero_add, List.flatMap_append, List.flatMap_cons, List.flatMap_nil, List.append_nil, ← Nat.add_assoc, ← List.append_assoc] at g
   repeat' first | refine Go.seq ?_ | refine Go.region rfl ?_ | refine Ops.nil ?_ | refine Ops.val eF rfl rfl Zw (by first | exact Z1 | exact Z3 | exact Y14 | exact Y24 | exact Z5) ?_ | refine Ops.data eF rfl rfl Zw rfl (Hop.bslice eF rfl rfl rfl rfl rfl rfl rfl rfl rfl rfl rfl) rfl rfl ?_ | refine Ops.appendE eF rfl rfl Zw rfl rfl rfl rfl rfl rfl rfl rfl rfl rfl rfl rfl rfl rfl rfl rfl Zi rfl rfl rfl rfl rfl Zz (by omega) ?_ | refine Go.condTt rfl Za ?_ | refine Go.condFt rfl Za ?_ | refine Go.block ?_ | refine Go.unblk ?_ | refine Go.skip ?_
   all_goals try simp only [Int.toNat_natCast] at *
   ·exact Go.toQ g rfl eF.g Zt rfl rfl ⟨.inr rfl, trivial⟩ Zl rfl rfl
 ·have ei : i = s.length := by omega
  subst ei
  rw [List.take_length] at *
  repeat' first | refine Go.seq ?_ | refine Go.region rfl ?_ | refine Ops.nil ?_ | refine Ops.val eF rfl rfl Zw (by first | exact Z1 | exact Z3) ?_ | refine Ops.data eF rfl rfl Zw rfl (Hop.bslice eF rfl rfl rfl rfl rfl rfl rfl rfl rfl rfl rfl) rfl rfl ?_ | refine Ops.appendE eF rfl rfl Zw rfl rfl rfl rfl rfl rfl rfl rfl rfl rfl rfl rfl rfl rfl rfl rfl Zi rfl rfl rfl rfl rfl Zz (by omega) ?_ | refine Go.condFt rfl Za ?_ | refine Go.exit rfl ?_ | refine Go.retM rfl rfl ?_ ?_ rfl
  ·rfl
  ·exact ⟨rfl, trivial⟩
def u8i (n : Int) : UInt8 := UInt8.ofNat (n % 256).toNat
theorem u8i_n (n : Int) : ((u8i n).toNat : Int) = n % 256 := by
 unfold u8i
 rw [UInt8.toNat_ofNat', Nat.mod_eq_of_lt (by omega)]; omega
def txtK (k : Int) : Prop := k = 3 ∨ k = 4 ∨ k = 7
instance (k : Int) : Decidable (txtK k) := by unfold txtK; infer_instance
def body (v : Va) : Str := if v.k = 2 then [u8i v.n] else if txtK v.k then esc v.s ++ [0, 1] else be 8 (numK v.n)
theorem body_len (v : Va) : (body v).length ≤ 2 * v.s.length + 8 := by
 have := esc_len v.s
 unfold body
 split
 ·simp
 ·split
  ·simp; omega
  ·rw [be_len]; omega
end Go.Px.Fe
end
section
set_option maxHeartbeats 4000000
set_option maxRecDepth 20000
namespace Go.Px.Fe
open Go.Proofs Go.Px.Fs
attribute [local irreducible] Go.Px.KOk
theorem body_t {v : Va} (h : txtK v.k) : body v = esc v.s ++ [0, 1] := by
 unfold body; rw [if_neg (by unfold txtK at h; omega), if_pos h]
theorem body_n {v : Va} (h : ¬ v.k = 2) (k : ¬ txtK v.k) : body v = be 8 (numK v.n) := by
 unfold body; rw [if_neg h, if_neg k]
theorem tail_t (n : Nat) (a b : List AV) (s : Str) : AB.arr 5 1 (n + s.length + 2) (a ++ b ++ s.flatMap encB ++ [.int .u8 0, .int .u8 1]) = .arr 5 1 (n + (s ++ [0, 1]).length) (a ++ b ++ (s ++ [0, 1]).flatMap encB) := by
 rw [List.flatMap_append, ← List.append_assoc, List.length_append]; rfl
theorem m81 (n : Nat) (cs : List AV) (v : Va) (hn : n ≤ 400000) (hs : v.s.length ≤ 100000) : KM cF 81 [.arr 5 1 n cs] [.own 0 n 1, .agg (encVa v)] (.own 0 (n + 1 + (body v).length) 1) [.arr 5 1 (n + 1 + (body v).length) (cs ++ encB (u8i v.k) ++ (body v).flatMap encB)] := by
 have k1 := k80 v.n
 have k2 := m104 (n + 1) (cs ++ encB (u8i v.k)) v.s (by omega) hs
 have ek := u8i_n v.k
 have en := u8i_n v.n
 have hb := be_len 8 (numK v.n)
 have hbe := esc_len v.s
 refine KM.of (N := 1) (ab := [.arr 5 1 n cs]) (gv := []) cF_ok eF.g Try.func81 rfl rfl rfl rfl (Nat.le_of_ble_eq_true rfl) rfl rfl rfl rfl rfl rfl fun w F opn gx => ?_
 repeat' first | refine Go.seq ?_ | refine Go.region rfl ?_ | refine Ops.nil ?_ | refine Ops.val eF rfl rfl Zw (by first | exact Hop.addUs rfl rfl rfl (by omega) | exact Hop.addU rfl rfl rfl | exact Hop.subU rfl rfl rfl | exact Hop.mulU rfl rfl rfl | exact Hop.quoU rfl rfl rfl rfl (by omega) | exact Hop.remU rfl rfl rfl rfl (by omega) | exact Hop.xorT rfl rfl rfl (by omega) | exact Hop.orB rfl rfl rfl (by omega) (by omega) (by omega) | exact Hop.shl8 rfl rfl rfl (by omega) | exact Hop.shrN rfl rfl rfl (by omega) (by omega) | exact Hop.conv eF rfl rfl rfl rfl rfl (wr_u64 (by omega)) | exact Hop.convU64 eF rfl rfl rfl rfl rfl | exact Y20 | exact Hop.convI64 eF rfl rfl rfl rfl rfl (by omega) | exact Hop.convU8 eF rfl rfl rfl rfl rfl) ?_ | refine Ops.val eF rfl rfl Zw (by first | exact Z1 | exact Z3 | exact Z4 | exact Z5) ?_ | refine Ops.call eF rfl rfl Zw rfl rfl rfl rfl (k1) rfl ?_ | refine Ops.data eF rfl rfl Zw rfl (Hop.bslice eF rfl rfl rfl rfl rfl rfl rfl rfl rfl rfl rfl) rfl rfl ?_ | refine Ops.appendE eF rfl rfl Zw rfl rfl rfl rfl rfl rfl rfl rfl rfl rfl rfl rfl rfl rfl rfl rfl Zi rfl rfl rfl rfl rfl Zz (by omega) ?_ | refine Ops.rowAt eF 1 rfl rfl Zw rfl (Hop.boxC rfl rfl rfl) ?_ | refine Go.condT rfl ?_ | refine Go.condPt rfl (fun _ => ?_) (fun _ => ?_) | refine Go.block ?_ | refine Go.unblk ?_ | refine Go.skip ?_ | refine Go.retM rfl rfl ?_ ?_ rfl
 ·rename_i q
  rw [show body v = [u8i v.n] from if_pos q]
  rfl
 ·rename_i q
  rw [show body v = [u8i v.n] from if_pos q]
  refine ⟨?_, trivial⟩
  show _ = AB.arr 5 1 _ (cs ++ [AV.int .u8 ((u8i v.k).toNat : Int)] ++ [AV.int .u8 ((u8i v.n).toNat : Int)])
  rw [ek, en]; rfl
 ·rename_i q
  simp only [← ek]
  repeat' first | refine Ops.nil ?_ | refine Ops.callM (v' := .own 0 _ 1) (ab := [.arr 5 1 _ _]) eF [0] 2 Zw rfl rfl rfl rfl (k2) rfl (wk_eq rfl) rfl Zb Zo rfl rfl rfl rfl rfl rfl rfl ?_ | refine Ops.val eF rfl rfl Zw Z1 ?_ | refine Go.retM rfl rfl ?_ ?_ rfl
  ·rw [body_t (by unfold txtK; omega), List.length_append]; rfl
  ·refine ⟨?_, trivial⟩
   rw [body_t (by unfold txtK; omega)]
   exact tail_t _ _ _ _
 ·rename_i q
  simp only [← ek]
  repeat' first | refine Ops.nil ?_ | refine Ops.callM (v' := .own 0 _ 1) (ab := [.arr 5 1 _ _]) eF [0] 2 Zw rfl rfl rfl rfl (k2) rfl (wk_eq rfl) rfl Zb Zo rfl rfl rfl rfl rfl rfl rfl ?_ | refine Ops.val eF rfl rfl Zw Z1 ?_ | refine Go.retM rfl rfl ?_ ?_ rfl
  ·rw [body_t (by unfold txtK; omega), List.length_append]; rfl
  ·refine ⟨?_, trivial⟩
   rw [body_t (by unfold txtK; omega)]
   exact tail_t _ _ _ _
 ·rename_i q
  simp only [← ek]
  repeat' first | refine Ops.nil ?_ | refine Ops.callM (v' := .own 0 _ 1) (ab := [.arr 5 1 _ _]) eF [0] 2 Zw rfl rfl rfl rfl (k2) rfl (wk_eq rfl) rfl Zb Zo rfl rfl rfl rfl rfl rfl rfl ?_ | refine Ops.val eF rfl rfl Zw Z1 ?_ | refine Go.retM rfl rfl ?_ ?_ rfl
  ·rw [body_t (by unfold txtK; omega), List.length_append]; rfl
  ·refine ⟨?_, trivial⟩
   rw [body_t (by unfold txtK; omega)]
   exact tail_t _ _ _ _
 ·rw [body_n (by omega) (by unfold txtK; omega)]
  rfl
 ·rw [body_n (by omega) (by unfold txtK; omega)]
  simp only [← ek]
  exact ⟨rfl, trivial⟩
end Go.Px.Fe
end
section
set_option maxHeartbeats 4000000
set_option maxRecDepth 20000
namespace Go.Px.Fe
open Go.Proofs Go.Px.Fs
attribute [local irreducible] Go.Px.KOk
theorem k54 (d : Da) : KOk cF 54 [.int .i64 1, .agg (encDa d)] (.bool true) := by
 refine KOk.of cF_ok eF.g Try.func54 rfl (Nat.le_of_ble_eq_true rfl) fun w F => ?_
 repeat' first | refine Go.seq ?_ | refine Go.region rfl ?_ | refine Ops.nil ?_ | refine Ops.val eF rfl rfl Zw (by first | exact Z1 | exact Z3 | exact Y12 | exact Y13 | exact Z4 | exact Z5 | exact Y31) ?_ | refine Ops.boxR eF rfl rfl Zw rfl rfl rfl rfl ?_ | refine Go.condT rfl ?_ | refine Go.condF rfl ?_ | refine Go.condTt rfl Za ?_ | refine Go.condFt rfl Za ?_ | refine Go.condPt rfl (fun _ => ?_) (fun _ => ?_) | refine Go.condNt rfl (fun _ => ?_) (fun _ => ?_) | refine Go.block ?_ | refine Go.unblk ?_ | refine Go.skip ?_ | refine Go.exit rfl ?_ | refine Go.retF rfl ?_ rfl | refine Go.endF rfl ?_ rfl | refine Go.retFm rfl rfl ?_ rfl | refine Go.endFm rfl rfl ?_ rfl | refine Go.retI rfl ?_ | refine Go.retM rfl rfl ?_ ?_ rfl | refine Go.endM rfl rfl ?_ ?_ rfl | refine Go.retY rfl rfl rfl ?_ | refine Go.endY rfl rfl rfl ?_ | refine (Ops.val eF rfl rfl Zw (by exact Hop.ldFG eF rfl rfl rfl rfl rfl rfl rfl (fun _ => rfl) (by omega)) ?_) | refine Go.endI rfl ?_
 all_goals first
  | rfl
  | (exfalso; omega)
theorem k57 (d : Da) : KOk cF 57 [.int .i64 1, .agg (encDa d)] (.bool true) := by
 refine KOk.of cF_ok eF.g Try.func57 rfl (Nat.le_of_ble_eq_true rfl) fun w F => ?_
 repeat' first | refine Go.seq ?_ | refine Go.region rfl ?_ | refine Ops.nil ?_ | refine Ops.val eF rfl rfl Zw (by first | exact Z1 | exact Z2 | exact Z3 | exact Y12 | exact Z4 | exact Z5 | exact Y31) ?_ | refine Ops.skip rfl rfl Zn ?_ | refine Ops.skipU rfl Zn ?_ | refine Ops.gT rfl rfl Za ?_ | refine Ops.gF rfl rfl Za ?_ | refine Ops.gP rfl rfl (fun _ => ?_) (fun _ => ?_) | refine Ops.gN rfl rfl (fun _ => ?_) (fun _ => ?_) | refine Ops.boxR eF rfl rfl Zw rfl rfl rfl rfl ?_ | refine Go.skip ?_ | refine Go.retF rfl ?_ rfl | refine Go.endF rfl ?_ rfl | refine Go.retFm rfl rfl ?_ rfl | refine Go.endFm rfl rfl ?_ rfl | refine Go.retI rfl ?_ | refine Go.retM rfl rfl ?_ ?_ rfl | refine Go.endM rfl rfl ?_ ?_ rfl | refine Go.retY rfl rfl rfl ?_ | refine Go.endY rfl rfl rfl ?_ | refine (Ops.val eF rfl rfl Zw (by exact Hop.ldFG eF rfl rfl rfl rfl rfl rfl rfl (fun _ => rfl) (by omega)) ?_) | refine Go.endI rfl ?_
 all_goals first
  | rfl
  | (exfalso; omega)
  | exact congrArg AV.bool (bd_of (by decide))
end Go.Px.Fe
end
section
set_option maxHeartbeats 4000000
set_option maxRecDepth 20000
namespace Go.Px.Fe
open Go.Proofs Go.Px.Fs
attribute [local irreducible] Go.Px.KOk
def keyP (p : Pt) : Str := bif p.val then u8i p.v.k :: body p.v else be 8 (numK p.n)
def keyB (l : List Pt) : Str := l.flatMap keyP
theorem keyP_len (p : Pt) : (keyP p).length ≤ 2 * p.v.s.length + 9 := by
 have := body_len p.v
 unfold keyP
 cases p.val
 ·rw [cond_false, be_len]; omega
 ·rw [cond_true, List.length_cons]; omega
theorem keyB_len {l : List Pt} (hs : ∀ i, (l.getD i default).v.s.length ≤ 2000) : ∀ i, i ≤ l.length → (keyB (l.take i)).length ≤ i * 4009
 | 0, _ => by simp [keyB]
 | i + 1, h => by
  have ih := keyB_len hs i (by omega)
  have := keyP_len (l.getD i default)
  have := hs i
  unfold keyB at *
  rw [take_succ' (by omega), List.flatMap_append, List.length_append]
  simp only [List.flatMap_cons, List.flatMap_nil, List.append_nil]; omega
theorem keyB_succ {l : List Pt} {i : Nat} (h : i < l.length) : keyB (l.take (i + 1)) = keyB (l.take i) ++ keyP (l.getD i default) := by
 unfold keyB; rw [take_succ' h, List.flatMap_append]; simp
theorem k55 (l : List Pt) (hl : l.length ≤ 20) (hp : ∀ i, i < l.length → (l.getD i default).val = true → VaP (l.getD i default).v) (hs : ∀ i, (l.getD i default).v.s.length ≤ 2000) : KOk cF 55 [ptsA l] (.tup [bysA (keyB l), .int .i64 0]) := by
 refine KOk.of cF_ok eF.g Try.func55 rfl (Nat.le_of_ble_eq_true rfl) fun w F => ?_
 repeat' first | refine Go.seq ?_ | refine Go.region rfl ?_ | refine Ops.nil ?_ | refine Ops.val eF rfl rfl Zw (by first | exact Z1 | exact Z6) ?_ | refine Go.block ?_
 refine Go.change (Chg.tokAt 0 4 5 1 rfl rfl) ?_
 refine Go.toHQ (N := 1) (bs := [.arr 5 1 0 []]) (L' := [(8, ptsA l), (4, .own 0 0 1), (9, .int .i64 l.length), (10, .int .i64 0)]) ?_ rfl eF.g Zt rfl rfl ⟨.inr rfl, trivial⟩ Zl rfl rfl
 refine Go.loop (fun i : Nat => [(8, ptsA l), (4, .own 0 (keyB (l.take i)).length 1), (9, .int .i64 l.length), (10, .int .i64 i)]) (fun i => hq 1 [.arr 5 1 (keyB (l.take i)).length ((keyB (l.take i)).flatMap encB)]) (fun i => i ≤ l.length) (fun i => l.length - i) 0 (Nat.zero_le _) Zt rfl (fun i hi ih => ?_)
 have hk := keyB_len hs i hi
 by_cases c0 : (i : Int) < (l.length : Int)
 ·have hlt : i < l.length := by omega
  have g := ih (i + 1) (by omega) (by omega)
  rw [keyB_succ hlt] at g
  have hp := hp i hlt
  have hs := hs i
  repeat' first | refine Go.seq ?_ | refine Go.region rfl ?_ | refine Ops.nil ?_ | refine Ops.val eF rfl rfl Zw (by first | exact Z2 | exact Z3 | exact Z4 | exact Y24 | exact Z5) ?_ | refine Ops.rowAt eF 1 rfl rfl Zw rfl (Hop.alloc eF rfl rfl rfl) ?_ | refine Ops.unit eF rfl Zw (Hop.store eF rfl rfl rfl rfl rfl rfl) (ArrKeep.put rfl) ?_ | refine Go.condTt rfl Za ?_ | refine Go.block ?_ | refine Go.skip ?_
  simp only [Int.toNat_natCast]
  generalize l.getD i default = p at *
  obtain ⟨val, pn, v⟩ := p
  cases val with
  | false =>
   have k1 := k80 pn
   have hb := be_len 8 (numK pn)
   rw [show keyP ⟨false, pn, v⟩ = be 8 (numK pn) from rfl, List.length_append, List.flatMap_append] at g
   repeat' first | refine Go.seq ?_ | refine Go.region rfl ?_ | refine Ops.nil ?_ | refine Ops.val eF rfl rfl Zw (by first | exact Z1 | exact Y14 | exact Z4 | exact Z5) ?_ | refine Ops.call eF rfl rfl Zw rfl rfl rfl rfl (k1) rfl ?_ | refine Ops.appendE eF rfl rfl Zw rfl rfl rfl rfl rfl rfl rfl rfl rfl rfl rfl rfl rfl rfl rfl rfl Zi rfl rfl rfl rfl rfl Zz (by omega) ?_ | refine Go.condT rfl ?_ | refine Go.exit rfl ?_
   exact Go.toQ g rfl eF.g Zt rfl rfl ⟨.inr rfl, trivial⟩ Zl rfl rfl
  | true =>
   have hp : VaP v := hp rfl
   have hs : v.s.length ≤ 2000 := hs
   have k1 : KOk cF 79 [.agg (encVa v)] (.int .i64 0) := by
    have := k49 v (by omega)
    rwa [bd_of hp, cond_true] at this
   have k2 := m81 (keyB (l.take i)).length ((keyB (l.take i)).flatMap encB) v (by omega) (by omega)
   rw [show keyP ⟨true, pn, v⟩ = u8i v.k :: body v from rfl, show u8i v.k :: body v = [u8i v.k] ++ body v from rfl, ← List.append_assoc, List.length_append, List.length_append, List.flatMap_append, List.flatMap_append] at g
   simp only [List.flatMap_cons, List.flatMap_nil, List.append_nil] at g
   repeat' first | refine Go.seq ?_ | refine Go.region rfl ?_ | refine Ops.nil ?_ | refine Ops.callM (v' := .own 0 _ 1) (ab := [.arr 5 1 _ _]) eF [0] 2 Zw rfl rfl rfl rfl (k2) rfl (wk_eq rfl) rfl Zb Zo rfl rfl rfl rfl rfl rfl rfl ?_ | refine Ops.val eF rfl rfl Zw (by first | exact Z1 | exact Z3 | exact Y14 | exact Z4 | exact Z5) ?_ | refine Ops.call eF rfl rfl Zw rfl rfl rfl rfl (k1) rfl ?_ | refine Go.condF rfl ?_ | refine Go.condNt rfl (fun _ => ?_) (fun _ => ?_) | refine Go.unblk ?_ | refine Go.skip ?_ | refine Go.retF rfl ?_ rfl
   ·rename_i q; exact absurd rfl q
   exact Go.toQ g rfl eF.g Zt rfl rfl ⟨.inr rfl, trivial⟩ Zl rfl rfl
 ·have ei : i = l.length := by omega
  subst ei
  rw [List.take_length] at *
  repeat' first | refine Go.seq ?_ | refine Go.region rfl ?_ | refine Ops.nil ?_ | refine Ops.frzMv eF 2 rfl rfl rfl Zw Z1 rfl Zi rfl rfl rfl rfl ?_ | refine Ops.val eF rfl rfl Zw (by first | exact Z1 | exact Z3) ?_ | refine Go.condFt rfl Za ?_ | refine Go.exit rfl ?_ | refine Go.retF rfl ?_ rfl
  rfl
end Go.Px.Fe
end
section
set_option maxHeartbeats 4000000
set_option maxRecDepth 20000
namespace Go.Px.Fe
open Go.Proofs Go.Px.Fs
attribute [local irreducible] Go.Px.KOk
def keyD (d : Da) : Str := keyB (ptsE d)
theorem VaP_len {v : Va} (h : VaP v) : v.s.length ≤ 1000 := by
 unfold VaP at h
 split at h
 ·rw [h]; simp
 split at h
 ·rw [h.1]; simp
 split at h
 ·exact h.2
 split at h
 ·rw [h.1]; simp
 split at h
 ·exact Nat.le_trans h.2.2.1 (by decide)
 ·exact h.elim
theorem ptsE_va {d : Da} (h : VaP d.v) : ∀ i, i < (ptsE d).length → ((ptsE d).getD i default).val = true → VaP ((ptsE d).getD i default).v := by
 intro i hi hv
 have hi : i < 7 := hi
 match i, hi with
 | 0, _ => cases hv
 | 1, _ => cases hv
 | 2, _ => exact h
 | 3, _ => cases hv
 | 4, _ => cases hv
 | 5, _ => cases hv
 | 6, _ => cases hv
theorem ptsE_len {d : Da} (h : d.v.s.length ≤ 2000) : ∀ i, ((ptsE d).getD i default).v.s.length ≤ 2000 := by
 intro i
 match i with
 | 0 => exact Nat.zero_le _
 | 1 => exact Nat.zero_le _
 | 2 => exact h
 | 3 => exact Nat.zero_le _
 | 4 => exact Nat.zero_le _
 | 5 => exact Nat.zero_le _
 | 6 => exact Nat.zero_le _
 | n + 7 => exact Nat.zero_le _
theorem ptsE_7 (d : Da) : (ptsE d).length ≤ 20 := by unfold ptsE; simp
theorem k27 (d : Da) (hd : DaP d) (hs : d.v.s.length ≤ 2000) : KOk cF 27 [.int .i64 1, .agg (encDa d)] (.tup [bysA (keyD d), .int .i64 0]) := by
 have k1 : KOk cF 53 [.agg (encDa d)] (.bool true) := by
  have := k42 d (by omega)
  rwa [bd_of hd] at this
 have k2 := k52
 have k3 := k54 d
 have k4 := k56 d
 have k5 := k55 (ptsE d) (ptsE_7 d) (ptsE_va hd.2.2.1) (ptsE_len hs)
 refine KOk.of cF_ok eF.g Try.func27 rfl (Nat.le_of_ble_eq_true rfl) fun w F => ?_
 repeat' first | refine Go.seq ?_ | refine Go.region rfl ?_ | refine Ops.nil ?_ | refine Ops.val eF rfl rfl Zw (by first | exact Z1 | exact Z2 | exact Z5) ?_ | refine Ops.call eF rfl rfl Zw rfl rfl rfl rfl (k1) rfl ?_ | refine Ops.call eF rfl rfl Zw rfl rfl rfl rfl (k2) rfl ?_ | refine Ops.call eF rfl rfl Zw rfl rfl rfl rfl (k3) rfl ?_ | refine Ops.call eF rfl rfl Zw rfl rfl rfl rfl (k4) rfl ?_ | refine Ops.call eF rfl rfl Zw rfl rfl rfl rfl (k5) rfl ?_ | refine Ops.rowAt eF 0 rfl rfl Zw rfl (Hop.boxC rfl rfl rfl) ?_ | refine Go.condF rfl ?_ | refine Go.skip ?_ | refine Go.retF rfl ?_ rfl
 rfl
end Go.Px.Fe
end
