/- Parts of the proof in YthaagimdjfkjpaaGreatDoorXFin: DuV. -/
import Derived.Test.YthaagimdjfkjpaaGreatDoorXLc
import Derived.Test.YthaagimdjfkjpaaGreatDoorXLd
import Derived.Test.YthaagimdjfkjpaaGreatDoorXK4
set_option linter.unusedVariables false
set_option linter.unusedSimpArgs false
section
set_option maxHeartbeats 4000000
set_option maxRecDepth 20000
namespace Go.Px.Du
open Go.Proofs Go.Px.Ds Go.Px.De
attribute [local irreducible] Go.Px.KOk Go.Px.KOkW
def allD (l : List Tx) : List Da := l.flatMap Tx.l
theorem allD_succ {l : List Tx} {i : Nat} (h : i < l.length) : allD (l.take (i + 1)) = allD (l.take i) ++ (l.getD i default).l := by
 unfold allD
 rw [take_succ' h, List.flatMap_append]; simp
theorem sumD_app (a b : List Da) : sumD (a ++ b) = sumD a + sumD b := by unfold sumD; rw [List.map_append, List.sum_append]
theorem sumD_len (l : List Da) : l.length ≤ sumD l := by
 induction l with
 | nil => simp [sumD]
 | cons d l ih => unfold sumD at *; simp only [List.map_cons, List.sum_cons, List.length_cons]; omega
def GreatT (l : List Tx) : Prop := 60 < l.length ∨ (∃ i, i < l.length ∧ (60 < (l.getD i default).l.length ∨ 4000 < sumD (l.getD i default).l)) ∨ 4000 < sumD (allD l)
theorem greatD_pos (l : List Da) : 0 < greatD l ↔ 4000 < sumD l := by
 by_cases h : 4000 < sumD l
 ·rw [greatD, bd_of h]; simp [h]
 ·rw [greatD, bd_no h]; simp [h]
theorem k4 (l : List Tx) (n : Int) (hl : l.length ≤ 10000000) (hd : ∀ i, sumD (l.getD i default).l ≤ 1000000000) (hn : ∀ i, (l.getD i default).l.length ≤ 10000000) : KOk cF 4 [.agg (dmA l n)] (.bool (bd (GreatT l))) := by
 refine KOk.of cF_ok eF.g Tryz.func4 rfl (Nat.le_of_ble_eq_true rfl) fun w F => ?_
 repeat' first | refine Go.seq ?_ | refine Go.region rfl ?_ | refine Ops.nil ?_ | refine Ops.boxR eF rfl rfl Zw rfl rfl rfl rfl ?_ | refine Ops.val eF rfl rfl Zw (by first | exact Z1 | exact Z3 | exact Z4 | exact Z5 | exact Z6) ?_ | refine Go.condPt rfl (fun _ => ?_) (fun _ => ?_) | refine Go.block ?_ | refine Go.skip ?_ | refine Go.retF rfl ?_ rfl
 ·exact congrArg AV.bool (bd_of (.inl (by omega))).symm
 rename_i q0
 have hl60 : l.length ≤ 60 := by omega
 refine Go.change (Chg.tokS 0 3 65 9 rfl rfl rfl) ?_
 refine Go.toHQ (N := 1) (bs := [.arr 65 9 0 []]) (L' := [(1, .rptr (dmA l n)), (3, .own 0 0 9), (11, .int .i64 l.length), (12, .int .i64 0)]) ?_ rfl eF.g Zt rfl rfl ⟨.inr rfl, trivial⟩ Zl rfl rfl
 refine Go.loop (fun i : Nat => [(1, .rptr (dmA l n)), (3, .own 0 (allD (l.take i)).length 9), (11, .int .i64 l.length), (12, .int .i64 i)]) (fun i => hq 1 [.arr 65 9 (allD (l.take i)).length ((allD (l.take i)).flatMap encDa)]) (fun i => i ≤ l.length ∧ sumD (allD (l.take i)) ≤ i * 4000 ∧ ∀ j, j < i → ¬ (60 < (l.getD j default).l.length ∨ 4000 < sumD (l.getD j default).l)) (fun i => l.length - i) 0 ⟨Nat.zero_le _, by simp [allD, sumD], fun j hj => absurd hj (Nat.not_lt_zero _)⟩ Zt rfl (fun i hi ih => ?_)
 obtain ⟨hi, hS, hN⟩ := hi
 have hlen := sumD_len (allD (l.take i))
 by_cases c0 : (i : Int) < (l.length : Int)
 ·have hlt : i < l.length := by omega
  have kg := k16d (l.getD i default).l (hd i) (hn i)
  have hgp := greatD_pos (l.getD i default).l
  have hni := hn i
  by_cases h60 : ((l.getD (i : Int).toNat default).l.length : Int) ≤ 60
  ·repeat' first | refine Go.seq ?_ | refine Go.region rfl ?_ | refine Ops.nil ?_ | refine Ops.val eF rfl rfl Zw (by first | exact Z1 | exact Z2 | exact Z3 | exact Y14 | exact Z4 | exact Y24 | exact Z5 | exact Z6) ?_ | refine Ops.skip rfl rfl Zn ?_ | refine Ops.gP rfl rfl (fun _ => ?_) (fun _ => ?_) | refine Ops.call eF rfl rfl Zw rfl rfl rfl rfl (kg) rfl ?_ | refine Ops.appendE eF rfl rfl Zw rfl rfl rfl rfl rfl rfl rfl rfl rfl rfl rfl rfl rfl rfl rfl rfl Zi rfl rfl rfl rfl rfl Zz (by omega) ?_ | refine Go.condT rfl ?_ | refine Go.condTt rfl Za ?_ | refine Go.condPt rfl (fun _ => ?_) (fun _ => ?_) | refine Go.block ?_ | refine Go.unblk ?_ | refine Go.skip ?_ | refine Go.retF rfl ?_ rfl
   all_goals try simp only [Int.toNat_natCast] at *
   ·exfalso; omega
   ·rename_i q
    exact congrArg AV.bool (bd_of (.inr (.inl ⟨i, hlt, .inr (hgp.1 q)⟩))).symm
   ·rename_i q
    have q' : ¬ 4000 < sumD (l.getD i default).l := fun h => q (hgp.2 h)
    have es := allD_succ hlt
    have ess := sumD_app (allD (l.take i)) (l.getD i default).l
    have g := ih (i + 1) ⟨by omega, by rw [es, ess]; omega, fun j hj => by rcases Nat.lt_succ_iff_lt_or_eq.1 hj with r | r; exact hN j r; subst r; intro z; rcases z with z | z; (exact absurd z (by omega)); exact q' z⟩ (by omega)
    rw [es, List.length_append, List.flatMap_append] at g
    exact Go.toQ g rfl eF.g Zt rfl rfl ⟨.inr rfl, trivial⟩ Zl rfl rfl
  ·have h60' : 60 < (l.getD i default).l.length := by
    have : ¬ ((l.getD i default).l.length : Int) ≤ 60 := h60
    omega
   repeat' first | refine Go.seq ?_ | refine Go.region rfl ?_ | refine Ops.nil ?_ | refine Ops.val eF rfl rfl Zw (by first | exact Z1 | exact Z2 | exact Z3 | exact Y14 | exact Z4 | exact Y24 | exact Z5 | exact Z6) ?_ | refine Ops.skip rfl rfl Zn ?_ | refine Ops.gP rfl rfl (fun _ => ?_) (fun _ => ?_) | refine Ops.call eF rfl rfl Zw rfl rfl rfl rfl (kg) rfl ?_ | refine Ops.appendE eF rfl rfl Zw rfl rfl rfl rfl rfl rfl rfl rfl rfl rfl rfl rfl rfl rfl rfl rfl Zi rfl rfl rfl rfl rfl Zz (by omega) ?_ | refine Go.condT rfl ?_ | refine Go.condTt rfl Za ?_ | refine Go.condPt rfl (fun _ => ?_) (fun _ => ?_) | refine Go.block ?_ | refine Go.unblk ?_ | refine Go.skip ?_ | refine Go.retF rfl ?_ rfl
   all_goals try simp only [Int.toNat_natCast] at *
   all_goals first
    | (exfalso; omega)
    | exact congrArg AV.bool (bd_of (.inr (.inl ⟨i, hlt, .inl h60'⟩))).symm
 ·have ei : i = l.length := by omega
  subst ei
  rw [List.take_length] at *
  have kg := k16d (allD l) (by omega) (by omega)
  have hgp := greatD_pos (allD l)
  repeat' first | refine Go.seq ?_ | refine Go.region rfl ?_ | refine Ops.nil ?_ | refine Ops.frzMv eF 42 rfl rfl rfl Zw Z1 rfl Zi rfl rfl rfl rfl ?_ | refine Ops.val eF rfl rfl Zw (by first | exact Z1 | exact Z3) ?_ | refine Ops.call eF rfl rfl Zw rfl rfl rfl rfl (kg) rfl ?_ | refine Go.condFt rfl Za ?_ | refine Go.exit rfl ?_ | refine Go.retF rfl ?_ rfl
  all_goals
   refine congrArg AV.bool (show bd (0 < greatD (allD l)) = bd (GreatT l) from ?_)
   by_cases h : 4000 < sumD (allD l)
   ·rw [bd_of (hgp.2 h), bd_of (show GreatT l from .inr (.inr h))]
   ·rw [bd_no (fun z => h (hgp.1 z)), bd_no]
    rintro (z | ⟨j, hj, z⟩ | z)
    ·omega
    ·exact hN j hj z
    ·exact h z
def DmP (l : List Tx) (n : Int) : Prop := AllT l ∧ 10 ≤ n ∧ n ≤ 9007199254740992 ∧ ((l.length = 0 ∧ n = 10) ∨ (l.length ≠ 0 ∧ (l.getD 0 default).t = 1))
theorem k10 (l : List Tx) (n : Int) (hl : l.length ≤ 1000000) (hd : ∀ i, (l.getD i default).l.length ≤ 1000000) (hs : ∀ i k, ((l.getD i default).l.getD k default).v.s.length ≤ 100000) : KOk cF 10 [.agg (dmA l n)] (.bool (bd (DmP l n))) := by
 have k1 := k14 l hl hd hs
 refine KOk.of cF_ok eF.g Tryz.func10 rfl (Nat.le_of_ble_eq_true rfl) fun w F => ?_
 by_cases hA : AllT l
 ·rw [bd_of hA] at k1
  have k1 : KOk cF 19 [txsA l] (.int .i64 0) := k1
  by_cases h1 : n < 10
  ·rw [bd_no fun h => absurd h.2.1 (by omega)]
   repeat' first | refine Go.seq ?_ | refine Go.region rfl ?_ | refine Ops.nil ?_ | refine Ops.boxR eF rfl rfl Zw rfl rfl rfl rfl ?_ | refine Ops.val eF rfl rfl Zw Zk ?_ | refine Go.condT rfl ?_ | refine Go.condF rfl ?_ | refine Ops.val eF rfl rfl Zw (by first | exact Z1 | exact Z2 | exact Z4 | exact Z5) ?_ | refine Ops.skip rfl rfl Zn ?_ | refine Ops.call eF rfl rfl Zw rfl rfl rfl rfl (k1) rfl ?_ | refine Go.retF rfl ?_ rfl
   all_goals rfl
  by_cases h2 : 9007199254740992 < n
  ·rw [bd_no fun h => absurd h.2.2.1 (by omega)]
   repeat' first | refine Go.seq ?_ | refine Go.region rfl ?_ | refine Ops.nil ?_ | refine Ops.boxR eF rfl rfl Zw rfl rfl rfl rfl ?_ | refine Ops.val eF rfl rfl Zw Zk ?_ | refine Go.condT rfl ?_ | refine Go.condF rfl ?_ | refine Ops.val eF rfl rfl Zw (by first | exact Z1 | exact Z2 | exact Z4 | exact Z5) ?_ | refine Ops.call eF rfl rfl Zw rfl rfl rfl rfl (k1) rfl ?_ | refine Go.retF rfl ?_ rfl
   all_goals rfl
  by_cases h3 : (l.length : Int) = 0
  ·by_cases h4 : n = 10
   ·rw [bd_of ⟨hA, by omega, by omega, .inl ⟨by omega, h4⟩⟩]
    repeat' first | refine Go.seq ?_ | refine Go.region rfl ?_ | refine Ops.nil ?_ | refine Ops.boxR eF rfl rfl Zw rfl rfl rfl rfl ?_ | refine Ops.val eF rfl rfl Zw Zk ?_ | refine Go.condT rfl ?_ | refine Go.condF rfl ?_ | refine Ops.val eF rfl rfl Zw (by first | exact Z1 | exact Z2 | exact Z4 | exact Z5 | exact Z6) ?_ | refine Ops.skip rfl rfl Zn ?_ | refine Ops.call eF rfl rfl Zw rfl rfl rfl rfl (k1) rfl ?_ | refine Go.skip ?_ | refine Go.retF rfl ?_ rfl
    all_goals rfl
   ·rw [bd_no fun h => by rcases h.2.2.2 with ⟨_, q⟩ | ⟨q, _⟩; exact h4 q; omega]
    repeat' first | refine Go.seq ?_ | refine Go.region rfl ?_ | refine Ops.nil ?_ | refine Ops.boxR eF rfl rfl Zw rfl rfl rfl rfl ?_ | refine Ops.val eF rfl rfl Zw Zk ?_ | refine Go.condT rfl ?_ | refine Go.condF rfl ?_ | refine Ops.val eF rfl rfl Zw (by first | exact Z1 | exact Z2 | exact Z4 | exact Z5 | exact Z6) ?_ | refine Ops.skip rfl rfl Zn ?_ | refine Ops.call eF rfl rfl Zw rfl rfl rfl rfl (k1) rfl ?_ | refine Go.skip ?_ | refine Go.retF rfl ?_ rfl
    all_goals rfl
  ·by_cases h4 : (l.getD (0 : Int).toNat default).t = 1
   ·rw [bd_of ⟨hA, by omega, by omega, .inr ⟨by omega, h4⟩⟩]
    repeat' first | refine Go.seq ?_ | refine Go.region rfl ?_ | refine Ops.nil ?_ | refine Ops.boxR eF rfl rfl Zw rfl rfl rfl rfl ?_ | refine Ops.val eF rfl rfl Zw Zk ?_ | refine Go.condT rfl ?_ | refine Go.condF rfl ?_ | refine Ops.val eF rfl rfl Zw (by first | exact Z1 | exact Z2 | exact Z4 | exact Y24 | exact Z5 | exact Z6) ?_ | refine Ops.skip rfl rfl Zn ?_ | refine Ops.call eF rfl rfl Zw rfl rfl rfl rfl (k1) rfl ?_ | refine Go.skip ?_ | refine Go.retF rfl ?_ rfl
    all_goals rfl
   ·rw [bd_no fun h => by rcases h.2.2.2 with ⟨q, _⟩ | ⟨_, q⟩; omega; exact h4 q]
    repeat' first | refine Go.seq ?_ | refine Go.region rfl ?_ | refine Ops.nil ?_ | refine Ops.boxR eF rfl rfl Zw rfl rfl rfl rfl ?_ | refine Ops.val eF rfl rfl Zw Zk ?_ | refine Go.condT rfl ?_ | refine Go.condF rfl ?_ | refine Ops.val eF rfl rfl Zw (by first | exact Z1 | exact Z2 | exact Z4 | exact Y24 | exact Z5 | exact Z6) ?_ | refine Ops.skip rfl rfl Zn ?_ | refine Ops.call eF rfl rfl Zw rfl rfl rfl rfl (k1) rfl ?_ | refine Go.skip ?_ | refine Go.retF rfl ?_ rfl
    all_goals rfl
 ·rw [bd_no hA] at k1
  have k1 : KOk cF 19 [txsA l] (.int .i64 270) := k1
  rw [bd_no fun h => hA h.1]
  repeat' first | refine Go.seq ?_ | refine Go.region rfl ?_ | refine Ops.nil ?_ | refine Ops.boxR eF rfl rfl Zw rfl rfl rfl rfl ?_ | refine Ops.val eF rfl rfl Zw Zk ?_ | refine Go.condT rfl ?_ | refine Go.condF rfl ?_ | refine Ops.val eF rfl rfl Zw (by first | exact Z1 | exact Z2 | exact Z3 | exact Z4 | exact Z5 | exact Z6) ?_ | refine Ops.skip rfl rfl Zn ?_ | refine Ops.gN rfl rfl (fun _ => ?_) (fun _ => ?_) | refine Ops.call eF rfl rfl Zw rfl rfl rfl rfl (k1) rfl ?_ | refine Go.skip ?_ | refine Go.retF rfl ?_ rfl
  all_goals first | rfl | (exfalso; omega)
theorem k14m (l : List Tx) (n : Int) (hl : l.length ≤ 1000000) (hd : ∀ i, (l.getD i default).l.length ≤ 1000000) (hs : ∀ i k, ((l.getD i default).l.getD k default).v.s.length ≤ 100000) : KOk cF 14 [.agg (dmA l n)] (.bool (bd (DmP l n))) := by
 have k1 := k8 l hl hd hs
 refine KOk.of cF_ok eF.g Tryz.func14 rfl (Nat.le_of_ble_eq_true rfl) fun w F => ?_
 by_cases hA : AllT l
 ·rw [bd_of hA] at k1
  by_cases h1 : n < 10
  ·rw [bd_no fun h => absurd h.2.1 (by omega)]
   repeat' first | refine Go.seq ?_ | refine Go.region rfl ?_ | refine Ops.nil ?_ | refine Ops.boxR eF rfl rfl Zw rfl rfl rfl rfl ?_ | refine Ops.val eF rfl rfl Zw Zk ?_ | refine Go.condT rfl ?_ | refine Go.condF rfl ?_ | refine Ops.val eF rfl rfl Zw (by first | exact Z1 | exact Z2 | exact Z4 | exact Z5) ?_ | refine Ops.skip rfl rfl Zn ?_ | refine Ops.call eF rfl rfl Zw rfl rfl rfl rfl (k1) rfl ?_ | refine Go.retF rfl ?_ rfl
   all_goals rfl
  by_cases h2 : 9007199254740992 < n
  ·rw [bd_no fun h => absurd h.2.2.1 (by omega)]
   repeat' first | refine Go.seq ?_ | refine Go.region rfl ?_ | refine Ops.nil ?_ | refine Ops.boxR eF rfl rfl Zw rfl rfl rfl rfl ?_ | refine Ops.val eF rfl rfl Zw Zk ?_ | refine Go.condT rfl ?_ | refine Go.condF rfl ?_ | refine Ops.val eF rfl rfl Zw (by first | exact Z1 | exact Z2 | exact Z4 | exact Z5) ?_ | refine Ops.call eF rfl rfl Zw rfl rfl rfl rfl (k1) rfl ?_ | refine Go.retF rfl ?_ rfl
   all_goals rfl
  by_cases h3 : (l.length : Int) = 0
  ·by_cases h4 : n = 10
   ·rw [bd_of ⟨hA, by omega, by omega, .inl ⟨by omega, h4⟩⟩]
    repeat' first | refine Go.seq ?_ | refine Go.region rfl ?_ | refine Ops.nil ?_ | refine Ops.boxR eF rfl rfl Zw rfl rfl rfl rfl ?_ | refine Ops.val eF rfl rfl Zw Zk ?_ | refine Go.condT rfl ?_ | refine Go.condF rfl ?_ | refine Ops.val eF rfl rfl Zw (by first | exact Z1 | exact Z2 | exact Z4 | exact Z5 | exact Z6) ?_ | refine Ops.call eF rfl rfl Zw rfl rfl rfl rfl (k1) rfl ?_ | refine Go.skip ?_ | refine Go.retF rfl ?_ rfl
    all_goals rfl
   ·rw [bd_no fun h => by rcases h.2.2.2 with ⟨_, q⟩ | ⟨q, _⟩; exact h4 q; omega]
    repeat' first | refine Go.seq ?_ | refine Go.region rfl ?_ | refine Ops.nil ?_ | refine Ops.boxR eF rfl rfl Zw rfl rfl rfl rfl ?_ | refine Ops.val eF rfl rfl Zw Zk ?_ | refine Go.condT rfl ?_ | refine Go.condF rfl ?_ | refine Ops.val eF rfl rfl Zw (by first | exact Z1 | exact Z2 | exact Z4 | exact Z5 | exact Z6) ?_ | refine Ops.call eF rfl rfl Zw rfl rfl rfl rfl (k1) rfl ?_ | refine Go.skip ?_ | refine Go.retF rfl ?_ rfl
    all_goals rfl
  ·by_cases h4 : (l.getD (0 : Int).toNat default).t = 1
   ·rw [bd_of ⟨hA, by omega, by omega, .inr ⟨by omega, h4⟩⟩]
    repeat' first | refine Go.seq ?_ | refine Go.region rfl ?_ | refine Ops.nil ?_ | refine Ops.boxR eF rfl rfl Zw rfl rfl rfl rfl ?_ | refine Ops.val eF rfl rfl Zw Zk ?_ | refine Go.condT rfl ?_ | refine Go.condF rfl ?_ | refine Ops.val eF rfl rfl Zw (by first | exact Z1 | exact Z2 | exact Z4 | exact Y24 | exact Z5 | exact Z6) ?_ | refine Ops.call eF rfl rfl Zw rfl rfl rfl rfl (k1) rfl ?_ | refine Go.skip ?_ | refine Go.retF rfl ?_ rfl
    all_goals rfl
   ·rw [bd_no fun h => by rcases h.2.2.2 with ⟨q, _⟩ | ⟨_, q⟩; omega; exact h4 q]
    repeat' first | refine Go.seq ?_ | refine Go.region rfl ?_ | refine Ops.nil ?_ | refine Ops.boxR eF rfl rfl Zw rfl rfl rfl rfl ?_ | refine Ops.val eF rfl rfl Zw Zk ?_ | refine Go.condT rfl ?_ | refine Go.condF rfl ?_ | refine Ops.val eF rfl rfl Zw (by first | exact Z1 | exact Z2 | exact Z4 | exact Y24 | exact Z5 | exact Z6) ?_ | refine Ops.call eF rfl rfl Zw rfl rfl rfl rfl (k1) rfl ?_ | refine Go.skip ?_ | refine Go.retF rfl ?_ rfl
    all_goals rfl
 ·rw [bd_no hA] at k1
  rw [bd_no fun h => hA h.1]
  repeat' first | refine Go.seq ?_ | refine Go.region rfl ?_ | refine Ops.nil ?_ | refine Ops.boxR eF rfl rfl Zw rfl rfl rfl rfl ?_ | refine Ops.val eF rfl rfl Zw Zk ?_ | refine Go.condT rfl ?_ | refine Go.condF rfl ?_ | refine Ops.val eF rfl rfl Zw (by first | exact Z1 | exact Z2 | exact Z4 | exact Z5) ?_ | refine Ops.skip rfl rfl Zn ?_ | refine Ops.call eF rfl rfl Zw rfl rfl rfl rfl (k1) rfl ?_ | refine Go.retF rfl ?_ rfl
  all_goals first | rfl | (exfalso; omega)
end Go.Px.Du
end
