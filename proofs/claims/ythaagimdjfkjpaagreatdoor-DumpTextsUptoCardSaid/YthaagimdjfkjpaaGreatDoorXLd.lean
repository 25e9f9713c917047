/- Parts of the proof in YthaagimdjfkjpaaGreatDoorXFin: DeH, DeI, DeJ. -/
import Derived.Test.YthaagimdjfkjpaaGreatDoorXLc
import Derived.Test.YthaagimdjfkjpaaGreatDoorXK4
set_option linter.unusedVariables false
set_option linter.unusedSimpArgs false
section
set_option maxHeartbeats 4000000
set_option maxRecDepth 20000
namespace Go.Px.De
open Go.Proofs Go.Px.Ds
attribute [local irreducible] Go.Px.KOk
theorem k50 (d : Da) : KOk cF 45 [.int .i64 1, .agg (encDa d)] (ptsA (ptsE d)) := by
 have k1 := k62
 refine KOk.of cF_ok eF.g Tryz.func45 rfl (Nat.le_of_ble_eq_true rfl) fun w F => ?_
 repeat' first | refine Go.seq ?_ | refine Go.region rfl ?_ | refine Ops.nil ?_ | refine Ops.boxR eF rfl rfl Zw rfl rfl rfl rfl ?_ | refine Ops.val eF rfl rfl Zw Z1 ?_ | refine Ops.call eF rfl rfl Zw rfl rfl rfl rfl (k1) rfl ?_ | refine Go.block ?_
 refine Go.change (Chg.tokS 0 6 105 5 rfl rfl rfl) ?_
 refine Go.toHQ (N := 1) (bs := [.arr 105 5 0 []]) (L' := [(3, .rptr (encDa d)), (5, sA [101, 97, 118]), (6, .own 0 0 5), (7, .int .i64 0)]) ?_ rfl eF.g Zt rfl rfl ⟨.inr rfl, trivial⟩ Zl rfl rfl
 refine Go.loop (fun i : Nat => [(3, .rptr (encDa d)), (5, sA [101, 97, 118]), (6, .own 0 ((ptsE d).take i).length 5), (7, .int .i64 i)]) (fun i => hq 1 [.arr 105 5 ((ptsE d).take i).length (((ptsE d).take i).flatMap encPt)]) (fun i => i ≤ 3) (fun i => 3 - i) 0 (Nat.zero_le _) Zt rfl (fun i hi ih => ?_)
 have hl : ((ptsE d).take i).length ≤ 7 := by rw [List.length_take]; exact Nat.min_le_right _ _
 have h4 : i = 0 ∨ i = 1 ∨ i = 2 ∨ i = 3 := by omega
 rcases h4 with rfl | rfl | rfl | rfl
 ·repeat' first | refine Go.seq ?_ | refine Go.region rfl ?_ | refine Ops.nil ?_ | refine Ops.val eF rfl rfl Zw (Hop.sidx (s := [101, 97, 118]) eF rfl rfl rfl rfl rfl (by decide)) ?_ | refine Ops.val eF rfl rfl Zw (by first | exact Z1 | exact Z3 | exact Y14 | exact Z4 | exact Z5 | exact Y36) ?_ | refine Ops.data eF rfl rfl Zw rfl (Hop.bslice eF rfl rfl rfl rfl rfl rfl rfl rfl rfl rfl rfl) rfl rfl ?_ | refine Ops.appendE eF rfl rfl Zw rfl rfl rfl rfl rfl rfl rfl rfl rfl rfl rfl rfl rfl rfl rfl rfl Zi rfl rfl rfl rfl rfl Zz (by omega) ?_ | refine Go.condTt rfl Za ?_ | refine Go.condFt rfl Za ?_ | refine Go.block ?_ | refine Go.unblk ?_ | refine Go.skip ?_
  exact Go.toQ (ih (0 + 1) (by decide) (by decide)) rfl eF.g Zt rfl rfl ⟨.inr rfl, trivial⟩ Zl rfl rfl
 ·repeat' first | refine Go.seq ?_ | refine Go.region rfl ?_ | refine Ops.nil ?_ | refine Ops.val eF rfl rfl Zw (Hop.sidx (s := [101, 97, 118]) eF rfl rfl rfl rfl rfl (by decide)) ?_ | refine Ops.val eF rfl rfl Zw (by first | exact Z1 | exact Z3 | exact Y14 | exact Z4 | exact Z5 | exact Y36) ?_ | refine Ops.data eF rfl rfl Zw rfl (Hop.bslice eF rfl rfl rfl rfl rfl rfl rfl rfl rfl rfl rfl) rfl rfl ?_ | refine Ops.appendE eF rfl rfl Zw rfl rfl rfl rfl rfl rfl rfl rfl rfl rfl rfl rfl rfl rfl rfl rfl Zi rfl rfl rfl rfl rfl Zz (by omega) ?_ | refine Go.condTt rfl Za ?_ | refine Go.condFt rfl Za ?_ | refine Go.block ?_ | refine Go.unblk ?_ | refine Go.skip ?_
  exact Go.toQ (ih (1 + 1) (by decide) (by decide)) rfl eF.g Zt rfl rfl ⟨.inr rfl, trivial⟩ Zl rfl rfl
 ·repeat' first | refine Go.seq ?_ | refine Go.region rfl ?_ | refine Ops.nil ?_ | refine Ops.val eF rfl rfl Zw (Hop.sidx (s := [101, 97, 118]) eF rfl rfl rfl rfl rfl (by decide)) ?_ | refine Ops.val eF rfl rfl Zw (by first | exact Z1 | exact Z3 | exact Y14 | exact Z4 | exact Z5 | exact Y36) ?_ | refine Ops.data eF rfl rfl Zw rfl (Hop.bslice eF rfl rfl rfl rfl rfl rfl rfl rfl rfl rfl rfl) rfl rfl ?_ | refine Ops.appendE eF rfl rfl Zw rfl rfl rfl rfl rfl rfl rfl rfl rfl rfl rfl rfl rfl rfl rfl rfl Zi rfl rfl rfl rfl rfl Zz (by omega) ?_ | refine Go.condTt rfl Za ?_ | refine Go.condFt rfl Za ?_ | refine Go.block ?_ | refine Go.unblk ?_ | refine Go.skip ?_
  exact Go.toQ (ih (2 + 1) (by decide) (by decide)) rfl eF.g Zt rfl rfl ⟨.inr rfl, trivial⟩ Zl rfl rfl
 ·obtain ⟨e, a, v, t, add, fr, to⟩ := d
  cases add with
  | true =>
   repeat' first | refine Go.seq ?_ | refine Go.region rfl ?_ | refine Ops.nil ?_ | refine Ops.frzMv eF 4 rfl rfl rfl Zw Z1 rfl Zi rfl rfl rfl rfl ?_ | refine Ops.val eF rfl rfl Zw (by first | exact Z1 | exact Z3 | exact Z4 | exact Z5 | exact Y36) ?_ | refine Ops.data eF rfl rfl Zw rfl (Hop.bslice eF rfl rfl rfl rfl rfl rfl rfl rfl rfl rfl rfl) rfl rfl ?_ | refine Ops.appendE eF rfl rfl Zw rfl rfl rfl rfl rfl rfl rfl rfl rfl rfl rfl rfl rfl rfl rfl rfl Zi rfl rfl rfl rfl rfl Zz (by omega) ?_ | refine Go.condT rfl ?_ | refine Go.condFt rfl Za ?_ | refine Go.exit rfl ?_ | refine Go.retF rfl ?_ rfl
   all_goals rfl
  | false =>
   repeat' first | refine Go.seq ?_ | refine Go.region rfl ?_ | refine Ops.nil ?_ | refine Ops.frzMv eF 4 rfl rfl rfl Zw Z1 rfl Zi rfl rfl rfl rfl ?_ | refine Ops.val eF rfl rfl Zw (by first | exact Z1 | exact Z3 | exact Z4 | exact Z5 | exact Y36) ?_ | refine Ops.data eF rfl rfl Zw rfl (Hop.bslice eF rfl rfl rfl rfl rfl rfl rfl rfl rfl rfl rfl) rfl rfl ?_ | refine Ops.appendE eF rfl rfl Zw rfl rfl rfl rfl rfl rfl rfl rfl rfl rfl rfl rfl rfl rfl rfl rfl Zi rfl rfl rfl rfl rfl Zz (by omega) ?_ | refine Go.condF rfl ?_ | refine Go.condFt rfl Za ?_ | refine Go.skip ?_ | refine Go.exit rfl ?_ | refine Go.retF rfl ?_ rfl
   all_goals rfl
end Go.Px.De
end
section
set_option maxHeartbeats 4000000
set_option maxRecDepth 20000
namespace Go.Px.De
open Go.Proofs Go.Px.Ds
attribute [local irreducible] Go.Px.KOk
theorem cmpDa_none {a b : Da} (h : ∀ k, k < 7 → cmpAt a b k = 0) : cmpDa a b = 0 := orI_none (l := (List.range 7).map (cmpAt a b)) fun x hx => by
 obtain ⟨k, hk, rfl⟩ := List.mem_map.1 hx
 exact h k (List.mem_range.1 hk)
theorem cmpDa_some {a b : Da} {j : Nat} {x : Int} (hj : j < 7) (h : ∀ k, k < j → cmpAt a b k = 0) (e : cmpAt a b j = x) (hx : x ≠ 0) : cmpDa a b = x := orI_some (l := (List.range 7).map (cmpAt a b)) (j := j) (fun k hk => by rw [List.getElem?_map, List.getElem?_range (by omega)]; exact congrArg some (h k hk)) (by rw [List.getElem?_map, List.getElem?_range hj]; exact congrArg some e) hx
theorem cmpI_lt {a b : Int} (h : a < b) : cmpI a b = -1 := by unfold cmpI; rw [if_pos h]
theorem cmpI_gt {a b : Int} (h : b < a) : cmpI a b = 1 := by unfold cmpI; rw [if_neg (by omega), if_pos h]
theorem cmpI_eq {a b : Int} (h1 : ¬ a < b) (h2 : ¬ b < a) : cmpI a b = 0 := by unfold cmpI; rw [if_neg h1, if_neg h2]
noncomputable def r46_0 : List Oper := ((drawn (Tryz.f46.body.getD .skip))[0]?).getD []
theorem dr46_0 : chkOrd cF r46_0 [0, 1, 2, 3, 4, 5, 6, 7, 8, 9, 10, 11] = true := by kernel_rfl
noncomputable def r46_1 : List Oper := ((drawn (Tryz.f46.body.getD .skip))[1]?).getD []
theorem dr46_1 : chkOrd cF r46_1 [0, 1, 2, 3, 4, 5, 6, 7, 8, 9, 10] = true := by kernel_rfl
noncomputable def r46_2 : List Oper := ((drawn (Tryz.f46.body.getD .skip))[2]?).getD []
theorem dr46_2 : chkOrd cF r46_2 [0, 1, 2, 3, 4, 5, 6, 7, 8, 9, 10] = true := by kernel_rfl
theorem k51 (a b : Da) (ha : a.v.s.length ≤ 100000) (hb : b.v.s.length ≤ 100000) : KOk cF 46 [ptsA (ptsE a), ptsA (ptsE b)] (.int .i64 (cmpDa a b)) := by
 have kv := k30 a.v b.v ha hb
 have la : (ptsE a).length = 7 := rfl
 have lb : (ptsE b).length = 7 := rfl
 let n77 : Ent cF := unitE kv rfl
 refine KOk.of cF_ok eF.g Tryz.func46 rfl (Nat.le_of_ble_eq_true rfl) fun w F => ?_
 repeat' first | refine Go.seq ?_ | refine Go.region rfl ?_ | refine Ops.nil ?_ | refine Ops.val eF rfl rfl Zw Z1 ?_ | refine Go.block ?_
 refine Go.loop (fun i : Nat => [(0, ptsA (ptsE a)), (1, ptsA (ptsE b)), (5, .int .i64 i)]) (fun _ => hS) (fun i => i ≤ 7 ∧ ∀ k, k < i → cmpAt a b k = 0) (fun i => 7 - i) 0 ⟨Nat.zero_le _, fun k hk => absurd hk (Nat.not_lt_zero _)⟩ Zt rfl (fun i hi ih => ?_)
 obtain ⟨hi, hP⟩ := hi
 have h8 : i = 2 ∨ (i = 0 ∨ i = 1 ∨ i = 3 ∨ i = 4 ∨ i = 5 ∨ i = 6) ∨ i = 7 := by omega
 rcases h8 with rfl | h8 | rfl
 ·repeat' first | refine Go.seq ?_ | refine Go.region rfl ?_ | refine Ops.nil ?_ | refine Ops.val eF rfl rfl Zw (by first | exact Z1 | exact Z2 | exact Z3 | exact Z4 | exact Y24 | exact Z5 | exact Z6) ?_ | refine Ops.skip rfl rfl Zn ?_ | refine Ops.gP rfl rfl (fun _ => ?_) (fun _ => ?_) | refine Go.condT rfl ?_ | refine Go.condF rfl ?_ | refine Go.condTt rfl Za ?_ | refine Go.block ?_ | refine Go.skip ?_ | refine Go.exit rfl ?_ | refine Go.retF rfl ?_ rfl
  rotate_left
  ·exfalso; omega
  refine Go.draw eF hm [n77] [0, 1, 2, 3, 4, 5, 6, 7, 8, 9, 10, 11] dr46_0 ?_
  repeat' first | refine Dr.nil ?_ | refine Dr.pure rfl rfl rfl rfl Zw (by first | exact Z1 | exact Z4 | exact Y24 | exact Z5) ?_ | refine Dr.light rfl rfl rfl rfl Zw Z5 ?_ | refine Dr.call rfl rfl rfl rfl Zw rfl rfl rfl rfl (by first | exact pans_hd () rfl rfl) ?_
  repeat' first | refine Go.seq ?_ | refine Go.region rfl ?_ | refine Ops.nil ?_ | refine Ops.val eF rfl rfl Zw (by first | exact Z1 | exact Z3 | exact Y14) ?_ | refine Go.condNt rfl (fun _ => ?_) (fun _ => ?_) | refine Go.skip ?_ | refine Go.exit rfl ?_ | refine Go.retF rfl ?_ rfl
  ·rename_i q
   exact congrArg (AV.int .i64) (cmpDa_some (j := 2) (by omega) hP rfl q).symm
  ·rename_i q
   exact Go.to (ih 3 ⟨by omega, fun k hk => by rcases Nat.lt_succ_iff_lt_or_eq.1 hk with r | r; exact hP k r; subst r; exact q⟩ (by omega)) Zt
 ·rcases h8 with rfl | rfl | rfl | rfl | rfl | rfl
  all_goals
   repeat' first | refine Go.seq ?_ | refine Go.region rfl ?_ | refine Ops.nil ?_ | refine Ops.val eF rfl rfl Zw (by first | exact Z1 | exact Z2 | exact Z3 | exact Z4 | exact Y24 | exact Z5 | exact Z6) ?_ | refine Ops.skip rfl rfl Zn ?_ | refine Ops.gP rfl rfl (fun _ => ?_) (fun _ => ?_) | refine Go.condF rfl ?_ | refine Go.condTt rfl Za ?_ | refine Go.block ?_ | refine Go.skip ?_ | refine Go.exit rfl ?_ | refine Go.retF rfl ?_ rfl
   rotate_left
   ·exfalso; omega
   refine Go.draw eF hm [] [0, 1, 2, 3, 4, 5, 6, 7, 8, 9, 10] dr46_1 ?_
   repeat' first | refine Dr.nil ?_ | refine Dr.pure rfl rfl rfl rfl Zw (by first | exact Z1 | exact Z3 | exact Z4 | exact Y24 | exact Z5) ?_ | refine Dr.light rfl rfl rfl rfl Zw Z5 ?_
   repeat' first | refine Go.seq ?_ | refine Go.region rfl ?_ | refine Ops.nil ?_ | refine Ops.val eF rfl rfl Zw Z1 ?_ | refine Go.condPt rfl (fun _ => ?_) (fun _ => ?_) | refine Go.skip ?_ | refine Go.retF rfl ?_ rfl
   ·rename_i q
    exact congrArg (AV.int .i64) (cmpDa_some (x := -1) (by decide) hP (cmpI_lt q) (by decide)).symm
   rename_i q1
   refine Go.draw eF hm [] [0, 1, 2, 3, 4, 5, 6, 7, 8, 9, 10] dr46_2 ?_
   repeat' first | refine Dr.nil ?_ | refine Dr.pure rfl rfl rfl rfl Zw (by first | exact Z1 | exact Z3 | exact Z4 | exact Y24 | exact Z5) ?_ | refine Dr.light rfl rfl rfl rfl Zw Z5 ?_
   repeat' first | refine Go.seq ?_ | refine Go.region rfl ?_ | refine Ops.nil ?_ | refine Ops.val eF rfl rfl Zw (by first | exact Z1 | exact Y14) ?_ | refine Go.condPt rfl (fun _ => ?_) (fun _ => ?_) | refine Go.unblk ?_ | refine Go.skip ?_ | refine Go.retF rfl ?_ rfl
   ·rename_i q
    exact congrArg (AV.int .i64) (cmpDa_some (x := 1) (by decide) hP (cmpI_gt q) (by decide)).symm
   ·rename_i q2
    first
     | exact Go.to (ih 1 ⟨by omega, fun k hk => by rcases Nat.lt_succ_iff_lt_or_eq.1 hk with r | r; exact hP k r; subst r; exact cmpI_eq q1 q2⟩ (by omega)) Zt
     | exact Go.to (ih 2 ⟨by omega, fun k hk => by rcases Nat.lt_succ_iff_lt_or_eq.1 hk with r | r; exact hP k r; subst r; exact cmpI_eq q1 q2⟩ (by omega)) Zt
     | exact Go.to (ih 4 ⟨by omega, fun k hk => by rcases Nat.lt_succ_iff_lt_or_eq.1 hk with r | r; exact hP k r; subst r; exact cmpI_eq q1 q2⟩ (by omega)) Zt
     | exact Go.to (ih 5 ⟨by omega, fun k hk => by rcases Nat.lt_succ_iff_lt_or_eq.1 hk with r | r; exact hP k r; subst r; exact cmpI_eq q1 q2⟩ (by omega)) Zt
     | exact Go.to (ih 6 ⟨by omega, fun k hk => by rcases Nat.lt_succ_iff_lt_or_eq.1 hk with r | r; exact hP k r; subst r; exact cmpI_eq q1 q2⟩ (by omega)) Zt
     | exact Go.to (ih 7 ⟨by omega, fun k hk => by rcases Nat.lt_succ_iff_lt_or_eq.1 hk with r | r; exact hP k r; subst r; exact cmpI_eq q1 q2⟩ (by omega)) Zt
 ·repeat' first | refine Go.seq ?_ | refine Go.region rfl ?_ | refine Ops.nil ?_ | refine Ops.val eF rfl rfl Zw (by first | exact Z1 | exact Z2 | exact Z3 | exact Z4 | exact Y24 | exact Z5 | exact Z6) ?_ | refine Ops.skip rfl rfl Zn ?_ | refine Ops.gP rfl rfl (fun _ => ?_) (fun _ => ?_) | refine Go.condF rfl ?_ | refine Go.condTt rfl Za ?_ | refine Go.block ?_ | refine Go.skip ?_ | refine Go.exit rfl ?_ | refine Go.retF rfl ?_ rfl
  ·exfalso; omega
  ·exact congrArg (AV.int .i64) (cmpDa_none fun k hk => hP k hk).symm
theorem k25 (a b : Da) (ha : a.v.s.length ≤ 100000) (hb : b.v.s.length ≤ 100000) : KOk cF 36 [.int .i64 1, .agg (encDa a), .agg (encDa b)] (.int .i64 (cmpDa a b)) := by
 have k1 := k50 a
 have k2 := k50 b
 have k3 := k51 a b ha hb
 refine KOk.of cF_ok eF.g Tryz.func36 rfl (Nat.le_of_ble_eq_true rfl) fun w F => ?_
 repeat' first | refine Go.seq ?_ | refine Go.region rfl ?_ | refine Ops.nil ?_ | refine Ops.val eF rfl rfl Zw (by first | exact Z1 | exact Z2 | exact Z3 | exact Z5) ?_ | refine Ops.gF rfl rfl Za ?_ | refine Ops.call eF rfl rfl Zw rfl rfl rfl rfl (k1) rfl ?_ | refine Ops.call eF rfl rfl Zw rfl rfl rfl rfl (k2) rfl ?_ | refine Ops.call eF rfl rfl Zw rfl rfl rfl rfl (k3) rfl ?_ | refine Ops.boxR eF rfl rfl Zw rfl rfl rfl rfl ?_ | refine Go.condFt rfl Za ?_ | refine Go.skip ?_ | refine Go.retF rfl ?_ rfl
 all_goals first
  | rfl
  | (exfalso; omega)
end Go.Px.De
end
section
set_option maxHeartbeats 4000000
set_option maxRecDepth 20000
namespace Go.Px.De
open Go.Proofs Go.Px.Ds
attribute [local irreducible] Go.Px.KOk
noncomputable def r27_0 : List Oper := ((drawn (Tryz.f27.body.getD .skip))[0]?).getD []
theorem dr27_0 : chkOrd cF r27_0 [0, 1, 2, 3, 4, 5, 6, 7, 8, 9, 10, 11] = true := by kernel_rfl
theorem k8 (l : List Tx) (hl : l.length ≤ 1000000) (hd : ∀ i, (l.getD i default).l.length ≤ 1000000) (hs : ∀ i k, ((l.getD i default).l.getD k default).v.s.length ≤ 100000) : KOk cF 27 [txsA l] (.bool (bd (AllT l))) := by
 refine KOk.of cF_ok eF.g Tryz.func27 rfl (Nat.le_of_ble_eq_true rfl) fun w F => ?_
 repeat' first | refine Go.seq ?_ | refine Go.region rfl ?_ | refine Ops.nil ?_ | refine Ops.val eF rfl rfl Zw Z1 ?_ | refine Go.block ?_
 refine Go.toHQ (N := 0) (bs := []) (L' := [(0, txsA l), (3, .int .i64 0)]) ?_ rfl eF.g Zt rfl rfl trivial trivial rfl rfl
 refine Go.loop (fun i : Nat => [(0, txsA l), (3, .int .i64 i)]) (fun _ => hq 0 []) (fun i => i ≤ l.length ∧ ∀ j, j < i → okTx l j) (fun i => l.length - i) 0 ⟨Nat.zero_le _, fun k hk => absurd hk (Nat.not_lt_zero _)⟩ Zt rfl (fun i hi ih => ?_)
 obtain ⟨hi, hP⟩ := hi
 by_cases c0 : (i : Int) < (l.length : Int)
 rotate_left
 ·have ei : i = l.length := by omega
  subst ei
  repeat' first | refine Go.seq ?_ | refine Go.region rfl ?_ | refine Ops.nil ?_ | refine Ops.val eF rfl rfl Zw (by first | exact Z1 | exact Z3 | exact Z6) ?_ | refine Go.condFt rfl Za ?_ | refine Go.exit rfl ?_ | refine Go.retF rfl ?_ rfl
  all_goals exact congrArg AV.bool (bd_of (fun j hj => hP j hj)).symm
 have hlt : i < l.length := by omega
 have e1 : ((i : Int) - 1).toNat = i - 1 := by omega
 have hpr : 0 < i → (l.getD ((i : Int) - 1).toNat default).t ≤ 1099511627776 ∧ 1 ≤ (l.getD ((i : Int) - 1).toNat default).t := fun q => by
  rw [e1]
  have := (hP (i - 1) (by omega)).1
  exact ⟨this.2.1, this.1⟩
 have bad : ∀ (q : ¬ okTx l i), AV.bool false = AV.bool (bd (AllT l)) := fun q => congrArg AV.bool (bd_no fun h => q (h i hlt)).symm
 have hbnd : (0 : Int) < i → (l.getD ((i : Int) - 1).toNat default).t ≤ 1099511627776 ∧ 1 ≤ (l.getD ((i : Int) - 1).toNat default).t := fun q => hpr (by omega)
 by_cases i0 : (0 : Int) < i
 ·obtain ⟨hb1, hb2⟩ := hbnd i0
  have hi1 : 0 ≤ (i : Int) - 1 ∧ (i : Int) - 1 < l.length := by omega
  repeat' first | refine Go.seq ?_ | refine Go.region rfl ?_ | refine Ops.nil ?_ | refine Ops.val eF rfl rfl Zw (by first | exact Z1 | exact Z2 | exact Z3 | exact Y14 | exact Y15 | exact Z4 | exact Y24 | exact Z5 | exact Z6) ?_ | refine Ops.skip rfl rfl Zn ?_ | refine Ops.gT rfl rfl Za ?_ | refine Ops.gP rfl rfl (fun _ => ?_) (fun _ => ?_) | refine Go.condT rfl ?_ | refine Go.condTt rfl Za ?_ | refine Go.condNt rfl (fun _ => ?_) (fun _ => ?_) | refine Go.block ?_ | refine Go.skip ?_ | refine Go.retF rfl ?_ rfl
  all_goals try simp only [Int.toNat_natCast] at *
  ·exact bad fun h => by have := h.1.1; omega
  ·exact bad fun h => by have := h.1.2.1; omega
  ·exact bad fun h => by
    have h3 := h.1.2.2
    rw [← e1] at h3
    omega
  have hh : hdP l i := ⟨by omega, by omega, .inr (by rw [← e1]; omega)⟩
  refine Go.to (M := [(0, txsA l), (3, .int .i64 i), (4, .int .i64 (l.getD i default).t), (5, .int .i64 0)]) ?_ Zt
  refine Go.loop (fun k : Nat => [(0, txsA l), (3, .int .i64 i), (4, .int .i64 (l.getD i default).t), (5, .int .i64 k)]) (fun _ => hq 0 []) (fun k => k ≤ (l.getD i default).l.length ∧ ∀ j, j < k → okD (l.getD i default) j) (fun k => (l.getD i default).l.length - k) 0 ⟨Nat.zero_le _, fun k hk => absurd hk (Nat.not_lt_zero _)⟩ Zt rfl (fun k hk ih2 => ?_)
  obtain ⟨hk, hQ⟩ := hk
  have hdi := hd i
  by_cases c1 : (k : Int) < ((l.getD i default).l.length : Int)
  ·have hkl : k < (l.getD i default).l.length := by omega
   have hkl' : (k : Int) < ((l.getD (i : Int).toNat default).l.length : Int) := c1
   have e2 : ((k : Int) - 1).toNat = k - 1 := by omega
   have km := k16 ((l.getD i default).l.getD k default) (hs i k)
   have kc := k25 ((l.getD i default).l.getD ((k : Int) - 1).toNat default) ((l.getD i default).l.getD k default) (hs i _) (hs i k)
   let n25 : Ent cF := unitE kc rfl
   have badk : ∀ (q : ¬ okD (l.getD i default) k), AV.bool false = AV.bool (bd (AllT l)) := fun q => bad fun h => q (h.2 k hkl)
   have nxt : ∀ (q : okD (l.getD i default) k), ∀ j, j < k + 1 → okD (l.getD i default) j := fun q j hj => by rcases Nat.lt_succ_iff_lt_or_eq.1 hj with r | r; exact hQ j r; subst r; exact q
   by_cases k0 : (k : Int) = 0
   ·repeat' first | refine Go.seq ?_ | refine Go.region rfl ?_ | refine Ops.nil ?_ | refine Ops.val eF rfl rfl Zw (by first | exact Z1 | exact Z2 | exact Z3 | exact Y14 | exact Z4 | exact Y24 | exact Z5 | exact Z6) ?_ | refine Ops.skip rfl rfl Zn ?_ | refine Ops.gN rfl rfl (fun _ => ?_) (fun _ => ?_) | refine Ops.call eF rfl rfl Zw rfl rfl rfl rfl (km) rfl ?_ | refine Ops.rowAt eF 0 rfl rfl Zw rfl (Hop.alloc eF rfl rfl rfl) ?_ | refine Ops.unit eF rfl Zw (Hop.store eF rfl rfl rfl rfl rfl rfl) (ArrKeep.put rfl) ?_ | refine Go.condT rfl ?_ | refine Go.condTt rfl Za ?_ | refine Go.condNt rfl (fun _ => ?_) (fun _ => ?_) | refine Go.block ?_ | refine Go.skip ?_ | refine Go.exit rfl ?_ | refine Go.retF rfl ?_ rfl
    all_goals try simp only [Int.toNat_natCast] at *
    all_goals try (exfalso; omega)
    all_goals first
     | exact badk (fun h => absurd h.2.1 (by assumption))
     | exact badk (fun h => absurd h.1 (by assumption))
     | exact Go.toQ (ih2 (k + 1) ⟨by omega, nxt ⟨by assumption, by assumption, .inl (by omega)⟩⟩ (by omega)) rfl eF.g Zt rfl rfl trivial trivial rfl rfl
   ·have hk1 : 0 ≤ (k : Int) - 1 ∧ (k : Int) - 1 < ((l.getD (i : Int).toNat default).l.length : Int) := by
     refine ⟨by omega, ?_⟩
     have : (k : Int) - 1 < ((l.getD i default).l.length : Int) := by omega
     exact this
    repeat' first | refine Go.seq ?_ | refine Go.region rfl ?_ | refine Ops.nil ?_ | refine Ops.val eF rfl rfl Zw (by first | exact Z1 | exact Z2 | exact Z3 | exact Z4 | exact Y24 | exact Z5 | exact Z6) ?_ | refine Ops.skip rfl rfl Zn ?_ | refine Ops.gN rfl rfl (fun _ => ?_) (fun _ => ?_) | refine Ops.call eF rfl rfl Zw rfl rfl rfl rfl (km) rfl ?_ | refine Ops.rowAt eF 0 rfl rfl Zw rfl (Hop.alloc eF rfl rfl rfl) ?_ | refine Ops.unit eF rfl Zw (Hop.store eF rfl rfl rfl rfl rfl rfl) (ArrKeep.put rfl) ?_ | refine Go.condT rfl ?_ | refine Go.condTt rfl Za ?_ | refine Go.condFt rfl Za ?_ | refine Go.condNt rfl (fun _ => ?_) (fun _ => ?_) | refine Go.block ?_ | refine Go.skip ?_ | refine Go.retF rfl ?_ rfl
    rotate_left
    rotate_left
    refine Go.draw eF hm [n25] [0, 1, 2, 3, 4, 5, 6, 7, 8, 9, 10, 11] dr27_0 ?_
    repeat' first | refine Dr.nil ?_ | refine Dr.pure rfl rfl rfl rfl Zw (by first | exact Z1 | exact Y15 | exact Z4 | exact Y24 | exact Z5) ?_ | refine Dr.light rfl rfl rfl rfl Zw Z5 ?_ | refine Dr.call rfl rfl rfl rfl Zw rfl rfl rfl rfl (by first | exact pans_hd () rfl rfl) ?_
    repeat' first | refine Go.seq ?_ | refine Go.region rfl ?_ | refine Ops.nil ?_ | refine Ops.val eF rfl rfl Zw (by first | exact Z1 | exact Z3 | exact Y14) ?_ | refine Go.condPt rfl (fun _ => ?_) (fun _ => ?_) | refine Go.unblk ?_ | refine Go.skip ?_ | refine Go.retF rfl ?_ rfl
    all_goals try simp only [Int.toNat_natCast] at *
    all_goals try (exfalso; omega)
    all_goals try (rw [e2] at *)
    all_goals first
     | exact badk (fun h => absurd h.2.1 (by assumption))
     | exact badk (fun h => absurd h.1 (by assumption))
     | exact badk (fun h => by rcases h.2.2 with r | r <;> omega)
     | exact Go.toQ (ih2 (k + 1) ⟨by omega, nxt ⟨by assumption, by assumption, .inr (by omega)⟩⟩ (by omega)) rfl eF.g Zt rfl rfl trivial trivial rfl rfl
  ·have ek : k = (l.getD i default).l.length := by omega
   have c1' : ¬ (k : Int) < ((l.getD (i : Int).toNat default).l.length : Int) := c1
   repeat' first | refine Go.seq ?_ | refine Go.region rfl ?_ | refine Ops.nil ?_ | refine Ops.val eF rfl rfl Zw (by first | exact Z1 | exact Z3 | exact Y14 | exact Z4 | exact Y24 | exact Z5 | exact Z6) ?_ | refine Go.condFt rfl Za ?_ | refine Go.unblk ?_ | refine Go.exit rfl ?_
   exact Go.toQ (ih (i + 1) ⟨by omega, fun j hj => by rcases Nat.lt_succ_iff_lt_or_eq.1 hj with r | r; exact hP j r; subst r; exact ⟨hh, fun m hm => hQ m (by omega)⟩⟩ (by omega)) rfl eF.g Zt rfl rfl trivial trivial rfl rfl
 ·repeat' first | refine Go.seq ?_ | refine Go.region rfl ?_ | refine Ops.nil ?_ | refine Ops.val eF rfl rfl Zw (by first | exact Z1 | exact Z2 | exact Z3 | exact Z4 | exact Y24 | exact Z5 | exact Z6) ?_ | refine Ops.skip rfl rfl Zn ?_ | refine Ops.gF rfl rfl Za ?_ | refine Ops.gP rfl rfl (fun _ => ?_) (fun _ => ?_) | refine Go.condT rfl ?_ | refine Go.condF rfl ?_ | refine Go.condTt rfl Za ?_ | refine Go.block ?_ | refine Go.skip ?_ | refine Go.retF rfl ?_ rfl
  all_goals try simp only [Int.toNat_natCast] at *
  ·exact bad fun h => by have := h.1.1; omega
  ·exact bad fun h => by have := h.1.2.1; omega
  have hh : hdP l i := ⟨by omega, by omega, .inl (by omega)⟩
  refine Go.to (M := [(0, txsA l), (3, .int .i64 i), (4, .int .i64 (l.getD i default).t), (5, .int .i64 0)]) ?_ Zt
  refine Go.loop (fun k : Nat => [(0, txsA l), (3, .int .i64 i), (4, .int .i64 (l.getD i default).t), (5, .int .i64 k)]) (fun _ => hq 0 []) (fun k => k ≤ (l.getD i default).l.length ∧ ∀ j, j < k → okD (l.getD i default) j) (fun k => (l.getD i default).l.length - k) 0 ⟨Nat.zero_le _, fun k hk => absurd hk (Nat.not_lt_zero _)⟩ Zt rfl (fun k hk ih2 => ?_)
  obtain ⟨hk, hQ⟩ := hk
  have hdi := hd i
  by_cases c1 : (k : Int) < ((l.getD i default).l.length : Int)
  ·have hkl : k < (l.getD i default).l.length := by omega
   have hkl' : (k : Int) < ((l.getD (i : Int).toNat default).l.length : Int) := c1
   have e2 : ((k : Int) - 1).toNat = k - 1 := by omega
   have km := k16 ((l.getD i default).l.getD k default) (hs i k)
   have kc := k25 ((l.getD i default).l.getD ((k : Int) - 1).toNat default) ((l.getD i default).l.getD k default) (hs i _) (hs i k)
   let n25 : Ent cF := unitE kc rfl
   have badk : ∀ (q : ¬ okD (l.getD i default) k), AV.bool false = AV.bool (bd (AllT l)) := fun q => bad fun h => q (h.2 k hkl)
   have nxt : ∀ (q : okD (l.getD i default) k), ∀ j, j < k + 1 → okD (l.getD i default) j := fun q j hj => by rcases Nat.lt_succ_iff_lt_or_eq.1 hj with r | r; exact hQ j r; subst r; exact q
   by_cases k0 : (k : Int) = 0
   ·repeat' first | refine Go.seq ?_ | refine Go.region rfl ?_ | refine Ops.nil ?_ | refine Ops.val eF rfl rfl Zw (by first | exact Z1 | exact Z2 | exact Z3 | exact Y14 | exact Z4 | exact Y24 | exact Z5 | exact Z6) ?_ | refine Ops.skip rfl rfl Zn ?_ | refine Ops.gN rfl rfl (fun _ => ?_) (fun _ => ?_) | refine Ops.call eF rfl rfl Zw rfl rfl rfl rfl (km) rfl ?_ | refine Ops.rowAt eF 0 rfl rfl Zw rfl (Hop.alloc eF rfl rfl rfl) ?_ | refine Ops.unit eF rfl Zw (Hop.store eF rfl rfl rfl rfl rfl rfl) (ArrKeep.put rfl) ?_ | refine Go.condT rfl ?_ | refine Go.condTt rfl Za ?_ | refine Go.condNt rfl (fun _ => ?_) (fun _ => ?_) | refine Go.block ?_ | refine Go.skip ?_ | refine Go.exit rfl ?_ | refine Go.retF rfl ?_ rfl
    all_goals try simp only [Int.toNat_natCast] at *
    all_goals try (exfalso; omega)
    all_goals first
     | exact badk (fun h => absurd h.2.1 (by assumption))
     | exact badk (fun h => absurd h.1 (by assumption))
     | exact Go.toQ (ih2 (k + 1) ⟨by omega, nxt ⟨by assumption, by assumption, .inl (by omega)⟩⟩ (by omega)) rfl eF.g Zt rfl rfl trivial trivial rfl rfl
   ·have hk1 : 0 ≤ (k : Int) - 1 ∧ (k : Int) - 1 < ((l.getD (i : Int).toNat default).l.length : Int) := by
     refine ⟨by omega, ?_⟩
     have : (k : Int) - 1 < ((l.getD i default).l.length : Int) := by omega
     exact this
    repeat' first | refine Go.seq ?_ | refine Go.region rfl ?_ | refine Ops.nil ?_ | refine Ops.val eF rfl rfl Zw (by first | exact Z1 | exact Z2 | exact Z3 | exact Z4 | exact Y24 | exact Z5 | exact Z6) ?_ | refine Ops.skip rfl rfl Zn ?_ | refine Ops.gN rfl rfl (fun _ => ?_) (fun _ => ?_) | refine Ops.call eF rfl rfl Zw rfl rfl rfl rfl (km) rfl ?_ | refine Ops.rowAt eF 0 rfl rfl Zw rfl (Hop.alloc eF rfl rfl rfl) ?_ | refine Ops.unit eF rfl Zw (Hop.store eF rfl rfl rfl rfl rfl rfl) (ArrKeep.put rfl) ?_ | refine Go.condT rfl ?_ | refine Go.condTt rfl Za ?_ | refine Go.condFt rfl Za ?_ | refine Go.condNt rfl (fun _ => ?_) (fun _ => ?_) | refine Go.block ?_ | refine Go.skip ?_ | refine Go.retF rfl ?_ rfl
    rotate_left
    rotate_left
    refine Go.draw eF hm [n25] [0, 1, 2, 3, 4, 5, 6, 7, 8, 9, 10, 11] dr27_0 ?_
    repeat' first | refine Dr.nil ?_ | refine Dr.pure rfl rfl rfl rfl Zw (by first | exact Z1 | exact Y15 | exact Z4 | exact Y24 | exact Z5) ?_ | refine Dr.light rfl rfl rfl rfl Zw Z5 ?_ | refine Dr.call rfl rfl rfl rfl Zw rfl rfl rfl rfl (by first | exact pans_hd () rfl rfl) ?_
    repeat' first | refine Go.seq ?_ | refine Go.region rfl ?_ | refine Ops.nil ?_ | refine Ops.val eF rfl rfl Zw (by first | exact Z1 | exact Z3 | exact Y14) ?_ | refine Go.condPt rfl (fun _ => ?_) (fun _ => ?_) | refine Go.unblk ?_ | refine Go.skip ?_ | refine Go.retF rfl ?_ rfl
    all_goals try simp only [Int.toNat_natCast] at *
    all_goals try (exfalso; omega)
    all_goals try (rw [e2] at *)
    all_goals first
     | exact badk (fun h => absurd h.2.1 (by assumption))
     | exact badk (fun h => absurd h.1 (by assumption))
     | exact badk (fun h => by rcases h.2.2 with r | r <;> omega)
     | exact Go.toQ (ih2 (k + 1) ⟨by omega, nxt ⟨by assumption, by assumption, .inr (by omega)⟩⟩ (by omega)) rfl eF.g Zt rfl rfl trivial trivial rfl rfl
  ·have ek : k = (l.getD i default).l.length := by omega
   have c1' : ¬ (k : Int) < ((l.getD (i : Int).toNat default).l.length : Int) := c1
   repeat' first | refine Go.seq ?_ | refine Go.region rfl ?_ | refine Ops.nil ?_ | refine Ops.val eF rfl rfl Zw (by first | exact Z1 | exact Z3 | exact Y14 | exact Z4 | exact Y24 | exact Z5 | exact Z6) ?_ | refine Go.condFt rfl Za ?_ | refine Go.unblk ?_ | refine Go.exit rfl ?_
   exact Go.toQ (ih (i + 1) ⟨by omega, fun j hj => by rcases Nat.lt_succ_iff_lt_or_eq.1 hj with r | r; exact hP j r; subst r; exact ⟨hh, fun m hm => hQ m (by omega)⟩⟩ (by omega)) rfl eF.g Zt rfl rfl trivial trivial rfl rfl
end Go.Px.De
end
