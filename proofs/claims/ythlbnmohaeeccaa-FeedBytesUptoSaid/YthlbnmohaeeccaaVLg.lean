/- Parts of the proof in YthlbnmohaeeccaaVFin: FeK, FeN, FsC, FeL, FeM. -/
import Derived.Test.YthlbnmohaeeccaaVLa
import Derived.Test.YthlbnmohaeeccaaVLe
import Derived.Test.YthlbnmohaeeccaaVK4
set_option linter.unusedVariables false
set_option linter.unusedSimpArgs false
section
set_option maxHeartbeats 4000000
set_option maxRecDepth 20000
namespace Go.Px.Fe
open Go.Proofs Go.Px.Fs
attribute [local irreducible] Go.Px.KOk
def sumD (l : List Da) : Nat := (l.map fun d => 20 + d.v.s.length).sum
theorem sumD_succ {l : List Da} {i : Nat} (h : i < l.length) : sumD (l.take (i + 1)) = sumD (l.take i) + 20 + (l.getD i default).v.s.length := by
 unfold sumD
 rw [take_succ' h, List.map_append, List.sum_append]
 simp; omega
theorem sumD_take (l : List Da) (i : Nat) : sumD (l.take i) ≤ sumD l := by
 have : sumD l = sumD (l.take i) + sumD (l.drop i) := by
  unfold sumD
  rw [← List.sum_append, ← List.map_append, List.take_append_drop]
 omega
noncomputable def greatD (l : List Da) : Int := bif bd (4000 < sumD l) then 1 else 0
theorem k16d (l : List Da) (hl : sumD l ≤ 1000000000) (hn : l.length ≤ 10000000) : KOk cF 16 [dasA l] (.int .i64 (greatD l)) := by
 refine KOk.of cF_ok eF.g Try.func16 rfl (Nat.le_of_ble_eq_true rfl) fun w F => ?_
 repeat' first | refine Go.seq ?_ | refine Go.region rfl ?_ | refine Ops.nil ?_ | refine Ops.val eF rfl rfl Zw Z1 ?_ | refine Go.block ?_
 refine Go.loop (fun i : Nat => [(0, dasA l), (3, .int .i64 (sumD (l.take i))), (4, .int .i64 i)]) (fun _ => hS) (fun i => i ≤ l.length) (fun i => l.length - i) 0 (Nat.zero_le _) Zt rfl (fun i hi ih => ?_)
 by_cases c0 : (i : Int) < (l.length : Int)
 ·have hlt : i < l.length := by omega
  have e := sumD_succ hlt
  have h1 := sumD_take l (i + 1)
  have h2 : ((l.getD (i : Int).toNat default).v.s.length : Int) ≤ 1000000000 := by
   have : (l.getD i default).v.s.length ≤ 1000000000 := by omega
   have h : (l.getD (i : Int).toNat default).v.s.length ≤ 1000000000 := this
   omega
  have h3 : (sumD (l.take i) : Int) ≤ 1000000000 := by omega
  have g := ih (i + 1) (by omega) (by omega)
  rw [e] at g
  repeat' first | refine Go.seq ?_ | refine Go.region rfl ?_ | refine Ops.nil ?_ | refine Ops.val eF rfl rfl Zw (by first | exact Z1 | exact Z3 | exact Y14 | exact Z4 | exact Y24 | exact Z5 | exact Z6) ?_ | refine Go.condTt rfl Za ?_ | refine Go.block ?_ | refine Go.unblk ?_ | refine Go.skip ?_
  exact Go.to g Zt
 ·have ei : i = l.length := by omega
  subst ei
  rw [List.take_length]
  repeat' first | refine Go.seq ?_ | refine Go.region rfl ?_ | refine Ops.nil ?_ | refine Ops.val eF rfl rfl Zw (by first | exact Z1 | exact Z3 | exact Z6) ?_ | refine Go.condFt rfl Za ?_ | refine Go.condPt rfl (fun _ => ?_) (fun _ => ?_) | refine Go.skip ?_ | refine Go.exit rfl ?_ | refine Go.retF rfl ?_ rfl
  ·rename_i q
   rw [greatD, bd_of (by omega)]; rfl
  ·rename_i q
   rw [greatD, bd_no (by omega)]; rfl
end Go.Px.Fe
end
section
set_option maxHeartbeats 4000000
set_option maxRecDepth 20000
namespace Go.Px.Fe
open Go.Proofs Go.Px.Fs
attribute [local irreducible] Go.Px.KOk
def allD (l : List Tx) : List Da := l.flatMap Tx.l
theorem allD_succ {l : List Tx} {i : Nat} (h : i < l.length) : allD (l.take (i + 1)) = allD (l.take i) ++ (l.getD i default).l := by
 unfold allD
 rw [take_succ' h, List.flatMap_append]; simp
theorem sumD_app (a b : List Da) : sumD (a ++ b) = sumD a + sumD b := by unfold sumD; rw [List.map_append, List.sum_append]
theorem sumD_len (l : List Da) : l.length ≤ sumD l := by
 induction l with
 | nil => simp [sumD]
 | cons d l ih => unfold sumD at *; simp only [List.map_cons, List.sum_cons, List.length_cons]; omega
def GreatT (l : List Tx) : Prop := 60 < l.length ∨ (∃ i, i < l.length ∧ (60 < (l.getD i default).l.length ∨ 4000 < sumD (l.getD i default).l)) ∨ 4000 < sumD (allD l)
theorem greatD_pos (l : List Da) : 0 < greatD l ↔ 4000 < sumD l := by
 by_cases h : 4000 < sumD l
 ·rw [greatD, bd_of h]; simp [h]
 ·rw [greatD, bd_no h]; simp [h]
theorem k7 (l : List Tx) (hl : l.length ≤ 10000000) (hd : ∀ i, sumD (l.getD i default).l ≤ 1000000000) (hn : ∀ i, (l.getD i default).l.length ≤ 10000000) : KOk cF 7 [txsA l] (.bool (bd (GreatT l))) := by
 refine KOk.of cF_ok eF.g Try.func7 rfl (Nat.le_of_ble_eq_true rfl) fun w F => ?_
 repeat' first | refine Go.seq ?_ | refine Go.region rfl ?_ | refine Ops.nil ?_ | refine Ops.val eF rfl rfl Zw (by first | exact Z1 | exact Z2 | exact Z3 | exact Y14 | exact Z4 | exact Y24 | exact Y25 | exact Z5 | exact Y31 | exact Z6) ?_ | refine Ops.skip rfl rfl Zn ?_ | refine Ops.skipU rfl Zn ?_ | refine Ops.gT rfl rfl Za ?_ | refine Ops.gF rfl rfl Za ?_ | refine Ops.gP rfl rfl (fun _ => ?_) (fun _ => ?_) | refine Ops.gN rfl rfl (fun _ => ?_) (fun _ => ?_) | refine Ops.clone eF rfl rfl Zw rfl rfl rfl rfl rfl rfl rfl rfl rfl rfl rfl rfl rfl rfl rfl rfl rfl (dats_flat (fun _ => rfl) _) (flat_len (fun _ => rfl) _) (by omega) (by omega) ?_ | refine Ops.appendE eF rfl rfl Zw rfl rfl rfl rfl rfl rfl rfl rfl rfl rfl rfl rfl rfl rfl rfl rfl Zi rfl rfl rfl rfl rfl Zz (by omega) ?_ | refine Ops.appendNAt eF 0 rfl rfl rfl (fun _ => by first | exact Want.no rfl | exact Want.tT rfl rfl rfl rfl | exact Want.fF rfl rfl rfl rfl) rfl rfl rfl rfl rfl rfl (fun _ => rfl) rfl rfl rfl rfl rfl rfl rfl rfl Zi rfl rfl rfl rfl rfl Zz (by omega) ?_ | refine Ops.appendNAt eF 1 rfl rfl rfl (fun _ => by first | exact Want.no rfl | exact Want.tT rfl rfl rfl rfl | exact Want.fF rfl rfl rfl rfl) rfl rfl rfl rfl rfl rfl (fun _ => rfl) rfl rfl rfl rfl rfl rfl rfl rfl Zi rfl rfl rfl rfl rfl Zz (by omega) ?_ | refine Ops.appendNAt eF 2 rfl rfl rfl (fun _ => by first | exact Want.no rfl | exact Want.tT rfl rfl rfl rfl | exact Want.fF rfl rfl rfl rfl) rfl rfl rfl rfl rfl rfl (fun _ => rfl) rfl rfl rfl rfl rfl rfl rfl rfl Zi rfl rfl rfl rfl rfl Zz (by omega) ?_ | refine Ops.appendNAt eF 3 rfl rfl rfl (fun _ => by first | exact Want.no rfl | exact Want.tT rfl rfl rfl rfl | exact Want.fF rfl rfl rfl rfl) rfl rfl rfl rfl rfl rfl (fun _ => rfl) rfl rfl rfl rfl rfl rfl rfl rfl Zi rfl rfl rfl rfl rfl Zz (by omega) ?_ | refine Ops.appendNAt eF 4 rfl rfl rfl (fun _ => by first | exact Want.no rfl | exact Want.tT rfl rfl rfl rfl | exact Want.fF rfl rfl rfl rfl) rfl rfl rfl rfl rfl rfl (fun _ => rfl) rfl rfl rfl rfl rfl rfl rfl rfl Zi rfl rfl rfl rfl rfl Zz (by omega) ?_ | refine Ops.appendNAt eF 5 rfl rfl rfl (fun _ => by first | exact Want.no rfl | exact Want.tT rfl rfl rfl rfl | exact Want.fF rfl rfl rfl rfl) rfl rfl rfl rfl rfl rfl (fun _ => rfl) rfl rfl rfl rfl rfl rfl rfl rfl Zi rfl rfl rfl rfl rfl Zz (by omega) ?_ | refine Ops.appendNAt eF 6 rfl rfl rfl (fun _ => by first | exact Want.no rfl | exact Want.tT rfl rfl rfl rfl | exact Want.fF rfl rfl rfl rfl) rfl rfl rfl rfl rfl rfl (fun _ => rfl) rfl rfl rfl rfl rfl rfl rfl rfl Zi rfl rfl rfl rfl rfl Zz (by omega) ?_ | refine Ops.appendNAt eF 7 rfl rfl rfl (fun _ => by first | exact Want.no rfl | exact Want.tT rfl rfl rfl rfl | exact Want.fF rfl rfl rfl rfl) rfl rfl rfl rfl rfl rfl (fun _ => rfl) rfl rfl rfl rfl rfl rfl rfl rfl Zi rfl rfl rfl rfl rfl Zz (by omega) ?_ | refine Ops.appendNAt eF 8 rfl rfl rfl (fun _ => by first | exact Want.no rfl | exact Want.tT rfl rfl rfl rfl | exact Want.fF rfl rfl rfl rfl) rfl rfl rfl rfl rfl rfl (fun _ => rfl) rfl rfl rfl rfl rfl rfl rfl rfl Zi rfl rfl rfl rfl rfl Zz (by omega) ?_ | refine Go.condT rfl ?_ | refine Go.condF rfl ?_ | refine Go.condTt rfl Za ?_ | refine Go.condFt rfl Za ?_ | refine Go.condPt rfl (fun _ => ?_) (fun _ => ?_) | refine Go.condNt rfl (fun _ => ?_) (fun _ => ?_) | refine Go.block ?_ | refine Go.unblk ?_ | refine Go.skip ?_ | refine Go.exit rfl ?_ | refine Go.retF rfl ?_ rfl | refine Go.endF rfl ?_ rfl | refine Go.retFm rfl rfl ?_ rfl | refine Go.endFm rfl rfl ?_ rfl | refine Go.retI rfl ?_ | refine Go.retM rfl rfl ?_ ?_ rfl | refine Go.endM rfl rfl ?_ ?_ rfl | refine Go.retY rfl rfl rfl ?_ | refine Go.endY rfl rfl rfl ?_ | refine (Ops.val eF rfl rfl Zw (by exact Hop.ldFG eF rfl rfl rfl rfl rfl rfl rfl (fun _ => rfl) (by omega)) ?_) | refine Go.endI rfl ?_
 ·exact congrArg AV.bool (bd_of (.inl (by omega))).symm
 rename_i q0
 have hl60 : l.length ≤ 60 := by omega
 refine Go.change (Chg.tokS 0 3 58 9 rfl rfl rfl) ?_
 refine Go.toHQ (N := 1) (bs := [.arr 58 9 0 []]) (L' := [(0, txsA l), (3, .own 0 0 9), (9, .int .i64 l.length), (10, .int .i64 0)]) ?_ rfl eF.g Zt rfl rfl ⟨.inr rfl, trivial⟩ Zl rfl rfl
 refine Go.loop (fun i : Nat => [(0, txsA l), (3, .own 0 (allD (l.take i)).length 9), (9, .int .i64 l.length), (10, .int .i64 i)]) (fun i => hq 1 [.arr 58 9 (allD (l.take i)).length ((allD (l.take i)).flatMap encDa)]) (fun i => i ≤ l.length ∧ sumD (allD (l.take i)) ≤ i * 4000 ∧ ∀ j, j < i → ¬ (60 < (l.getD j default).l.length ∨ 4000 < sumD (l.getD j default).l)) (fun i => l.length - i) 0 ⟨Nat.zero_le _, by simp [allD, sumD], fun j hj => absurd hj (Nat.not_lt_zero _)⟩ Zt rfl (fun i hi ih => ?_)
 obtain ⟨hi, hS, hN⟩ := hi
 have hlen := sumD_len (allD (l.take i))
 by_cases c0 : (i : Int) < (l.length : Int)
 ·have hlt : i < l.length := by omega
  have kg := k16d (l.getD i default).l (hd i) (hn i)
  have hgp := greatD_pos (l.getD i default).l
  have hni := hn i
  by_cases h60 : ((l.getD (i : Int).toNat default).l.length : Int) ≤ 60
  ·repeat' first | refine Go.seq ?_ | refine Go.region rfl ?_ | refine Ops.nil ?_ | refine Ops.val eF rfl rfl Zw (by first | exact Z1 | exact Z2 | exact Z3 | exact Y14 | exact Z4 | exact Y24 | exact Y25 | exact Z5 | exact Y31 | exact Z6) ?_ | refine Ops.skip rfl rfl Zn ?_ | refine Ops.skipU rfl Zn ?_ | refine Ops.gT rfl rfl Za ?_ | refine Ops.gF rfl rfl Za ?_ | refine Ops.gP rfl rfl (fun _ => ?_) (fun _ => ?_) | refine Ops.gN rfl rfl (fun _ => ?_) (fun _ => ?_) | refine Ops.call eF rfl rfl Zw rfl rfl rfl rfl (kg) rfl ?_ | refine Ops.clone eF rfl rfl Zw rfl rfl rfl rfl rfl rfl rfl rfl rfl rfl rfl rfl rfl rfl rfl rfl rfl (dats_flat (fun _ => rfl) _) (flat_len (fun _ => rfl) _) (by omega) (by omega) ?_ | refine Ops.appendE eF rfl rfl Zw rfl rfl rfl rfl rfl rfl rfl rfl rfl rfl rfl rfl rfl rfl rfl rfl Zi rfl rfl rfl rfl rfl Zz (by omega) ?_ | refine Ops.appendNAt eF 0 rfl rfl rfl (fun _ => by first | exact Want.no rfl | exact Want.tT rfl rfl rfl rfl | exact Want.fF rfl rfl rfl rfl) rfl rfl rfl rfl rfl rfl (fun _ => rfl) rfl rfl rfl rfl rfl rfl rfl rfl Zi rfl rfl rfl rfl rfl Zz (by omega) ?_ | refine Ops.appendNAt eF 1 rfl rfl rfl (fun _ => by first | exact Want.no rfl | exact Want.tT rfl rfl rfl rfl | exact Want.fF rfl rfl rfl rfl) rfl rfl rfl rfl rfl rfl (fun _ => rfl) rfl rfl rfl rfl rfl rfl rfl rfl Zi rfl rfl rfl rfl rfl Zz (by omega) ?_ | refine Ops.appendNAt eF 2 rfl rfl rfl (fun _ => by first | exact Want.no rfl | exact Want.tT rfl rfl rfl rfl | exact Want.fF rfl rfl rfl rfl) rfl rfl rfl rfl rfl rfl (fun _ => rfl) rfl rfl rfl rfl rfl rfl rfl rfl Zi rfl rfl rfl rfl rfl Zz (by omega) ?_ | refine Ops.appendNAt eF 3 rfl rfl rfl (fun _ => by first | exact Want.no rfl | exact Want.tT rfl rfl rfl rfl | exact Want.fF rfl rfl rfl rfl) rfl rfl rfl rfl rfl rfl (fun _ => rfl) rfl rfl rfl rfl rfl rfl rfl rfl Zi rfl rfl rfl rfl rfl Zz (by omega) ?_ | refine Ops.appendNAt eF 4 rfl rfl rfl (fun _ => by first | exact Want.no rfl | exact Want.tT rfl rfl rfl rfl | exact Want.fF rfl rfl rfl rfl) rfl rfl rfl rfl rfl rfl (fun _ => rfl) rfl rfl rfl rfl rfl rfl rfl rfl Zi rfl rfl rfl rfl rfl Zz (by omega) ?_ | refine Ops.appendNAt eF 5 rfl rfl rfl (fun _ => by first | exact Want.no rfl | exact Want.tT rfl rfl rfl rfl | exact Want.fF rfl rfl rfl rfl) rfl rfl rfl rfl rfl rfl (fun _ => rfl) rfl rfl rfl rfl rfl rfl rfl rfl Zi rfl rfl rfl rfl rfl Zz (by omega) ?_ | refine Ops.appendNAt eF 6 rfl rfl rfl (fun _ => by first | exact Want.no rfl | exact Want.tT rfl rfl rfl rfl | exact Want.fF rfl rfl rfl rfl) rfl rfl rfl rfl rfl rfl (fun _ => rfl) rfl rfl rfl rfl rfl rfl rfl rfl Zi rfl rfl rfl rfl rfl Zz (by omega) ?_ | refine Ops.appendNAt eF 7 rfl rfl rfl (fun _ => by first | exact Want.no rfl | exact Want.tT rfl rfl rfl rfl | exact Want.fF rfl rfl rfl rfl) rfl rfl rfl rfl rfl rfl (fun _ => rfl) rfl rfl rfl rfl rfl rfl rfl rfl Zi rfl rfl rfl rfl rfl Zz (by omega) ?_ | refine Ops.appendNAt eF 8 rfl rfl rfl (fun _ => by first | exact Want.no rfl | exact Want.tT rfl rfl rfl rfl | exact Want.fF rfl rfl rfl rfl) rfl rfl rfl rfl rfl rfl (fun _ => rfl) rfl rfl rfl rfl rfl rfl rfl rfl Zi rfl rfl rfl rfl rfl Zz (by omega) ?_ | refine Go.condT rfl ?_ | refine Go.condF rfl ?_ | refine Go.condTt rfl Za ?_ | refine Go.condFt rfl Za ?_ | refine Go.condPt rfl (fun _ => ?_) (fun _ => ?_) | refine Go.condNt rfl (fun _ => ?_) (fun _ => ?_) | refine Go.block ?_ | refine Go.unblk ?_ | refine Go.skip ?_ | refine Go.exit rfl ?_ | refine Go.retF rfl ?_ rfl | refine Go.endF rfl ?_ rfl | refine Go.retFm rfl rfl ?_ rfl | refine Go.endFm rfl rfl ?_ rfl | refine Go.retI rfl ?_ | refine Go.retM rfl rfl ?_ ?_ rfl | refine Go.endM rfl rfl ?_ ?_ rfl | refine Go.retY rfl rfl rfl ?_ | refine Go.endY rfl rfl rfl ?_ | refine (Ops.val eF rfl rfl Zw (by exact Hop.ldFG eF rfl rfl rfl rfl rfl rfl rfl (fun _ => rfl) (by omega)) ?_) | refine Go.endI rfl ?_
   all_goals try simp only [Int.toNat_natCast] at *
   ·exfalso; omega
   ·rename_i q
    exact congrArg AV.bool (bd_of (.inr (.inl ⟨i, hlt, .inr (hgp.1 q)⟩))).symm
   ·rename_i q
    have q' : ¬ 4000 < sumD (l.getD i default).l := fun h => q (hgp.2 h)
    have es := allD_succ hlt
    have ess := sumD_app (allD (l.take i)) (l.getD i default).l
    have g := ih (i + 1) ⟨by omega, by rw [es, ess]; omega, fun j hj => by rcases Nat.lt_succ_iff_lt_or_eq.1 hj with r | r; exact hN j r; subst r; intro z; rcases z with z | z; (exact absurd z (by omega)); exact q' z⟩ (by omega)
    rw [es, List.length_append, List.flatMap_append] at g
    exact Go.toQ g rfl eF.g Zt rfl rfl ⟨.inr rfl, trivial⟩ Zl rfl rfl
  ·have h60' : 60 < (l.getD i default).l.length := by
    have : ¬ ((l.getD i default).l.length : Int) ≤ 60 := h60
    omega
   repeat' first | refine Go.seq ?_ | refine Go.region rfl ?_ | refine Ops.nil ?_ | refine Ops.val eF rfl rfl Zw (by first | exact Z1 | exact Z2 | exact Z3 | exact Y14 | exact Z4 | exact Y24 | exact Y25 | exact Z5 | exact Y31 | exact Z6) ?_ | refine Ops.skip rfl rfl Zn ?_ | refine Ops.skipU rfl Zn ?_ | refine Ops.gT rfl rfl Za ?_ | refine Ops.gF rfl rfl Za ?_ | refine Ops.gP rfl rfl (fun _ => ?_) (fun _ => ?_) | refine Ops.gN rfl rfl (fun _ => ?_) (fun _ => ?_) | refine Ops.call eF rfl rfl Zw rfl rfl rfl rfl (kg) rfl ?_ | refine Ops.clone eF rfl rfl Zw rfl rfl rfl rfl rfl rfl rfl rfl rfl rfl rfl rfl rfl rfl rfl rfl rfl (dats_flat (fun _ => rfl) _) (flat_len (fun _ => rfl) _) (by omega) (by omega) ?_ | refine Ops.appendE eF rfl rfl Zw rfl rfl rfl rfl rfl rfl rfl rfl rfl rfl rfl rfl rfl rfl rfl rfl Zi rfl rfl rfl rfl rfl Zz (by omega) ?_ | refine Ops.appendNAt eF 0 rfl rfl rfl (fun _ => by first | exact Want.no rfl | exact Want.tT rfl rfl rfl rfl | exact Want.fF rfl rfl rfl rfl) rfl rfl rfl rfl rfl rfl (fun _ => rfl) rfl rfl rfl rfl rfl rfl rfl rfl Zi rfl rfl rfl rfl rfl Zz (by omega) ?_ | refine Ops.appendNAt eF 1 rfl rfl rfl (fun _ => by first | exact Want.no rfl | exact Want.tT rfl rfl rfl rfl | exact Want.fF rfl rfl rfl rfl) rfl rfl rfl rfl rfl rfl (fun _ => rfl) rfl rfl rfl rfl rfl rfl rfl rfl Zi rfl rfl rfl rfl rfl Zz (by omega) ?_ | refine Ops.appendNAt eF 2 rfl rfl rfl (fun _ => by first | exact Want.no rfl | exact Want.tT rfl rfl rfl rfl | exact Want.fF rfl rfl rfl rfl) rfl rfl rfl rfl rfl rfl (fun _ => rfl) rfl rfl rfl rfl rfl rfl rfl rfl Zi rfl rfl rfl rfl rfl Zz (by omega) ?_ | refine Ops.appendNAt eF 3 rfl rfl rfl (fun _ => by first | exact Want.no rfl | exact Want.tT rfl rfl rfl rfl | exact Want.fF rfl rfl rfl rfl) rfl rfl rfl rfl rfl rfl (fun _ => rfl) rfl rfl rfl rfl rfl rfl rfl rfl Zi rfl rfl rfl rfl rfl Zz (by omega) ?_ | refine Ops.appendNAt eF 4 rfl rfl rfl (fun _ => by first | exact Want.no rfl | exact Want.tT rfl rfl rfl rfl | exact Want.fF rfl rfl rfl rfl) rfl rfl rfl rfl rfl rfl (fun _ => rfl) rfl rfl rfl rfl rfl rfl rfl rfl Zi rfl rfl rfl rfl rfl Zz (by omega) ?_ | refine Ops.appendNAt eF 5 rfl rfl rfl (fun _ => by first | exact Want.no rfl | exact Want.tT rfl rfl rfl rfl | exact Want.fF rfl rfl rfl rfl) rfl rfl rfl rfl rfl rfl (fun _ => rfl) rfl rfl rfl rfl rfl rfl rfl rfl Zi rfl rfl rfl rfl rfl Zz (by omega) ?_ | refine Ops.appendNAt eF 6 rfl rfl rfl (fun _ => by first | exact Want.no rfl | exact Want.tT rfl rfl rfl rfl | exact Want.fF rfl rfl rfl rfl) rfl rfl rfl rfl rfl rfl (fun _ => rfl) rfl rfl rfl rfl rfl rfl rfl rfl Zi rfl rfl rfl rfl rfl Zz (by omega) ?_ | refine Ops.appendNAt eF 7 rfl rfl rfl (fun _ => by first | exact Want.no rfl | exact Want.tT rfl rfl rfl rfl | exact Want.fF rfl rfl rfl rfl) rfl rfl rfl rfl rfl rfl (fun _ => rfl) rfl rfl rfl rfl rfl rfl rfl rfl Zi rfl rfl rfl rfl rfl Zz (by omega) ?_ | refine Ops.appendNAt eF 8 rfl rfl rfl (fun _ => by first | exact Want.no rfl | exact Want.tT rfl rfl rfl rfl | exact Want.fF rfl rfl rfl rfl) rfl rfl rfl rfl rfl rfl (fun _ => rfl) rfl rfl rfl rfl rfl rfl rfl rfl Zi rfl rfl rfl rfl rfl Zz (by omega) ?_ | refine Go.condT rfl ?_ | refine Go.condF rfl ?_ | refine Go.condTt rfl Za ?_ | refine Go.condFt rfl Za ?_ | refine Go.condPt rfl (fun _ => ?_) (fun _ => ?_) | refine Go.condNt rfl (fun _ => ?_) (fun _ => ?_) | refine Go.block ?_ | refine Go.unblk ?_ | refine Go.skip ?_ | refine Go.exit rfl ?_ | refine Go.retF rfl ?_ rfl | refine Go.endF rfl ?_ rfl | refine Go.retFm rfl rfl ?_ rfl | refine Go.endFm rfl rfl ?_ rfl | refine Go.retI rfl ?_ | refine Go.retM rfl rfl ?_ ?_ rfl | refine Go.endM rfl rfl ?_ ?_ rfl | refine Go.retY rfl rfl rfl ?_ | refine Go.endY rfl rfl rfl ?_ | refine (Ops.val eF rfl rfl Zw (by exact Hop.ldFG eF rfl rfl rfl rfl rfl rfl rfl (fun _ => rfl) (by omega)) ?_) | refine Go.endI rfl ?_
   all_goals try simp only [Int.toNat_natCast] at *
   all_goals first
    | (exfalso; omega)
    | exact congrArg AV.bool (bd_of (.inr (.inl ⟨i, hlt, .inl h60'⟩))).symm
 ·have ei : i = l.length := by omega
  subst ei
  rw [List.take_length] at *
  have kg := k16d (allD l) (by omega) (by omega)
  have hgp := greatD_pos (allD l)
  repeat' first | refine Go.seq ?_ | refine Go.region rfl ?_ | refine Ops.nil ?_ | refine Ops.frzMv eF 37 rfl rfl rfl Zw Z1 rfl Zi rfl rfl rfl rfl ?_ | refine Ops.val eF rfl rfl Zw (by first | exact Z1 | exact Z2 | exact Z3 | exact Y14 | exact Z4 | exact Y24 | exact Y25 | exact Z5 | exact Y31 | exact Z6) ?_ | refine Ops.skip rfl rfl Zn ?_ | refine Ops.skipU rfl Zn ?_ | refine Ops.gT rfl rfl Za ?_ | refine Ops.gF rfl rfl Za ?_ | refine Ops.gP rfl rfl (fun _ => ?_) (fun _ => ?_) | refine Ops.gN rfl rfl (fun _ => ?_) (fun _ => ?_) | refine Ops.call eF rfl rfl Zw rfl rfl rfl rfl (kg) rfl ?_ | refine Ops.clone eF rfl rfl Zw rfl rfl rfl rfl rfl rfl rfl rfl rfl rfl rfl rfl rfl rfl rfl rfl rfl (dats_flat (fun _ => rfl) _) (flat_len (fun _ => rfl) _) (by omega) (by omega) ?_ | refine Ops.appendE eF rfl rfl Zw rfl rfl rfl rfl rfl rfl rfl rfl rfl rfl rfl rfl rfl rfl rfl rfl Zi rfl rfl rfl rfl rfl Zz (by omega) ?_ | refine Ops.appendNAt eF 0 rfl rfl rfl (fun _ => by first | exact Want.no rfl | exact Want.tT rfl rfl rfl rfl | exact Want.fF rfl rfl rfl rfl) rfl rfl rfl rfl rfl rfl (fun _ => rfl) rfl rfl rfl rfl rfl rfl rfl rfl Zi rfl rfl rfl rfl rfl Zz (by omega) ?_ | refine Ops.appendNAt eF 1 rfl rfl rfl (fun _ => by first | exact Want.no rfl | exact Want.tT rfl rfl rfl rfl | exact Want.fF rfl rfl rfl rfl) rfl rfl rfl rfl rfl rfl (fun _ => rfl) rfl rfl rfl rfl rfl rfl rfl rfl Zi rfl rfl rfl rfl rfl Zz (by omega) ?_ | refine Ops.appendNAt eF 2 rfl rfl rfl (fun _ => by first | exact Want.no rfl | exact Want.tT rfl rfl rfl rfl | exact Want.fF rfl rfl rfl rfl) rfl rfl rfl rfl rfl rfl (fun _ => rfl) rfl rfl rfl rfl rfl rfl rfl rfl Zi rfl rfl rfl rfl rfl Zz (by omega) ?_ | refine Ops.appendNAt eF 3 rfl rfl rfl (fun _ => by first | exact Want.no rfl | exact Want.tT rfl rfl rfl rfl | exact Want.fF rfl rfl rfl rfl) rfl rfl rfl rfl rfl rfl (fun _ => rfl) rfl rfl rfl rfl rfl rfl rfl rfl Zi rfl rfl rfl rfl rfl Zz (by omega) ?_ | refine Ops.appendNAt eF 4 rfl rfl rfl (fun _ => by first | exact Want.no rfl | exact Want.tT rfl rfl rfl rfl | exact Want.fF rfl rfl rfl rfl) rfl rfl rfl rfl rfl rfl (fun _ => rfl) rfl rfl rfl rfl rfl rfl rfl rfl Zi rfl rfl rfl rfl rfl Zz (by omega) ?_ | refine Ops.appendNAt eF 5 rfl rfl rfl (fun _ => by first | exact Want.no rfl | exact Want.tT rfl rfl rfl rfl | exact Want.fF rfl rfl rfl rfl) rfl rfl rfl rfl rfl rfl (fun _ => rfl) rfl rfl rfl rfl rfl rfl rfl rfl Zi rfl rfl rfl rfl rfl Zz (by omega) ?_ | refine Ops.appendNAt eF 6 rfl rfl rfl (fun _ => by first | exact Want.no rfl | exact Want.tT rfl rfl rfl rfl | exact Want.fF rfl rfl rfl rfl) rfl rfl rfl rfl rfl rfl (fun _ => rfl) rfl rfl rfl rfl rfl rfl rfl rfl Zi rfl rfl rfl rfl rfl Zz (by omega) ?_ | refine Ops.appendNAt eF 7 rfl rfl rfl (fun _ => by first | exact Want.no rfl | exact Want.tT rfl rfl rfl rfl | exact Want.fF rfl rfl rfl rfl) rfl rfl rfl rfl rfl rfl (fun _ => rfl) rfl rfl rfl rfl rfl rfl rfl rfl Zi rfl rfl rfl rfl rfl Zz (by omega) ?_ | refine Ops.appendNAt eF 8 rfl rfl rfl (fun _ => by first | exact Want.no rfl | exact Want.tT rfl rfl rfl rfl | exact Want.fF rfl rfl rfl rfl) rfl rfl rfl rfl rfl rfl (fun _ => rfl) rfl rfl rfl rfl rfl rfl rfl rfl Zi rfl rfl rfl rfl rfl Zz (by omega) ?_ | refine Go.condT rfl ?_ | refine Go.condF rfl ?_ | refine Go.condTt rfl Za ?_ | refine Go.condFt rfl Za ?_ | refine Go.condPt rfl (fun _ => ?_) (fun _ => ?_) | refine Go.condNt rfl (fun _ => ?_) (fun _ => ?_) | refine Go.block ?_ | refine Go.unblk ?_ | refine Go.skip ?_ | refine Go.exit rfl ?_ | refine Go.retF rfl ?_ rfl | refine Go.endF rfl ?_ rfl | refine Go.retFm rfl rfl ?_ rfl | refine Go.endFm rfl rfl ?_ rfl | refine Go.retI rfl ?_ | refine Go.retM rfl rfl ?_ ?_ rfl | refine Go.endM rfl rfl ?_ ?_ rfl | refine Go.retY rfl rfl rfl ?_ | refine Go.endY rfl rfl rfl ?_ | refine (Ops.val eF rfl rfl Zw (by exact Hop.ldFG eF rfl rfl rfl rfl rfl rfl rfl (fun _ => rfl) (by omega)) ?_) | refine Go.endI rfl ?_
  all_goals
   refine congrArg AV.bool (show bd (0 < greatD (allD l)) = bd (GreatT l) from ?_)
   by_cases h : 4000 < sumD (allD l)
   ·rw [bd_of (hgp.2 h), bd_of (show GreatT l from .inr (.inr h))]
   ·rw [bd_no (fun z => h (hgp.1 z)), bd_no]
    rintro (z | ⟨j, hj, z⟩ | z)
    ·omega
    ·exact hN j hj z
    ·exact h z
end Go.Px.Fe
end
section
set_option maxHeartbeats 4000000
set_option maxRecDepth 20000
namespace Go.Px.Fs
open Go.Proofs
theorem getD_ext {α : Type} [Inhabited α] {a b : List α} (h : a.length = b.length) (k : ∀ j, j < a.length → a.getD j default = b.getD j default) : a = b := by
 apply List.ext_getElem h
 intro i h1 h2
 have := k i h1
 rw [List.getD_eq_getElem?_getD, List.getD_eq_getElem?_getD, List.getElem?_eq_getElem h1, List.getElem?_eq_getElem h2] at this
 exact this
end Go.Px.Fs
end
section
set_option maxHeartbeats 4000000
set_option maxRecDepth 20000
namespace Go.Px.Fe
open Go.Proofs Go.Px.Fs
attribute [local irreducible] Go.Px.KOk
theorem eqDa (a b : Da) : eqv cF 6 58 (.agg (encDa a)) (.agg (encDa b)) = some (bd (a = b)) := by
 have h : eqv cF 6 58 (.agg (encDa a)) (.agg (encDa b)) = (match ieq a.e b.e with | true => (match ieq a.a b.a with | true => (match (match ieq a.v.k b.v.k with | true => (match ieq a.v.n b.v.n with | true => (match strEq (a.v.s.map UInt8.toNat) (b.v.s.map UInt8.toNat) with | true => some true | false => some false) | false => some false) | false => some false) with | some q => (match q with | true => (match ieq a.t b.t with | true => (match (a.add == b.add) with | true => (match ieq a.fr b.fr with | true => (match ieq a.to b.to with | true => some true | false => some false) | false => some false) | false => some false) | false => some false) | false => some false) | none => none) | false => some false) | false => some false) := by kernel_rfl
 rw [h]
 simp only [ieq_dec, strEq_sA]
 obtain ⟨e, aa, ⟨k, n, s⟩, t, ad, fr, to⟩ := a
 obtain ⟨e', aa', ⟨k', n', s'⟩, t', ad', fr', to'⟩ := b
 by_cases h1 : e = e'
 ·by_cases h2 : aa = aa'
  ·by_cases h3 : k = k'
   ·by_cases h4 : n = n'
    ·by_cases h5 : s = s'
     ·by_cases h6 : t = t'
      ·by_cases h7 : ad = ad'
       ·by_cases h8 : fr = fr' <;> by_cases h9 : to = to' <;> simp [h1, h2, h3, h4, h5, h6, h7, h8, h9, bd]
       ·simp [h7, bd]
        cases ad <;> cases ad' <;> simp_all
      ·simp [h6, bd, h1, h2, h3, h4, h5]
     ·simp [h5, bd, h1, h2, h3, h4]
    ·simp [h4, bd, h1, h2, h3]
   ·simp [h3, bd, h1, h2]
  ·simp [h2, bd, h1]
 ·simp [h1, bd]
noncomputable def r66_0 : List Oper := ((drawn (Try.f66.body.getD .skip))[0]?).getD []
theorem dr66_0 : chkOrd cF r66_0 [0, 1, 2, 3, 4, 5, 6, 7, 8] = true := by kernel_rfl
theorem k66 (a b : List Da) (ha : a.length ≤ 10000000) : KOk cF 66 [dasA a, dasA b] (.bool (bd (a = b))) := by
 refine KOk.of cF_ok eF.g Try.func66 rfl (Nat.le_of_ble_eq_true rfl) fun w F => ?_
 repeat' first | refine Go.seq ?_ | refine Go.region rfl ?_ | refine Ops.nil ?_ | refine Ops.val eF rfl rfl Zw (by first | exact Z1 | exact Z3 | exact Z6) ?_ | refine Go.condNt rfl (fun _ => ?_) (fun _ => ?_) | refine Go.block ?_ | refine Go.skip ?_ | refine Go.retF rfl ?_ rfl
 ·rename_i q
  exact congrArg AV.bool (bd_no fun e => q (by rw [e])).symm
 rename_i q
 have hlen : a.length = b.length := by omega
 refine Go.loop (fun i : Nat => [(0, dasA a), (1, dasA b), (5, .int .i64 i)]) (fun _ => hS) (fun i => i ≤ a.length ∧ ∀ j, j < i → a.getD j default = b.getD j default) (fun i => a.length - i) 0 ⟨by omega, fun j hj => by omega⟩ Zt rfl (fun i hP ih => ?_)
 obtain ⟨hi, hn⟩ := hP
 have hib : i < a.length → i < b.length := fun q => by omega
 by_cases c0 : (i : Int) < (a.length : Int)
 ·have hlt : i < a.length := by omega
  have hltb := hib hlt
  repeat' first | refine Go.seq ?_ | refine Go.region rfl ?_ | refine Ops.nil ?_ | refine Ops.val eF rfl rfl Zw (by first | exact Z1 | exact Z3 | exact Z6) ?_ | refine Go.condTt rfl Za ?_ | refine Go.block ?_ | refine Go.skip ?_
  refine Go.draw eF hm [] [0, 1, 2, 3, 4, 5, 6, 7, 8] dr66_0 ?_
  repeat' first | refine Dr.nil ?_ | refine Dr.pure rfl rfl rfl rfl Zw (by first | exact Z1 | exact Y24 | exact Z5 | exact Hop.neD rfl rfl rfl rfl (eqDa _ _)) ?_ | refine Dr.light rfl rfl rfl rfl Zw Z5 ?_
  repeat' first | refine Go.seq ?_ | refine Go.region rfl ?_ | refine Ops.nil ?_ | refine Ops.val eF rfl rfl Zw (by first | exact Z1 | exact Y14) ?_ | refine Go.condNt rfl (fun _ => ?_) (fun _ => ?_) | refine Go.unblk ?_ | refine Go.skip ?_ | refine Go.retF rfl ?_ rfl
  all_goals try simp only [Int.toNat_natCast] at *
  ·rename_i q
   exact congrArg AV.bool (bd_no fun e => q (by rw [e])).symm
  ·rename_i q
   exact Go.to (ih (i + 1) ⟨by omega, fun j hj => by rcases Nat.lt_succ_iff_lt_or_eq.1 hj with r | r; exact hn j r; subst r; exact q⟩ (by omega)) Zt
 ·repeat' first | refine Go.seq ?_ | refine Go.region rfl ?_ | refine Ops.nil ?_ | refine Ops.val eF rfl rfl Zw (by first | exact Z1 | exact Z3 | exact Z6) ?_ | refine Go.condFt rfl Za ?_ | refine Go.exit rfl ?_ | refine Go.retF rfl ?_ rfl
  exact congrArg AV.bool (bd_of (getD_ext hlen fun j hj => hn j (by omega))).symm
theorem tx_eq {x y : Tx} (h1 : x.t = y.t) (h2 : x.l = y.l) : x = y := by
 cases x; cases y; simp_all
noncomputable def r36_0 : List Oper := ((drawn (Try.f36.body.getD .skip))[0]?).getD []
theorem dr36_0 : chkOrd cF r36_0 [0, 1, 2, 3, 4, 5, 6, 7, 8, 9, 10, 11] = true := by kernel_rfl
noncomputable def r36_1 : List Oper := ((drawn (Try.f36.body.getD .skip))[1]?).getD []
theorem dr36_1 : chkOrd cF r36_1 [0, 1, 2, 3, 4, 5, 6, 7, 8, 9, 10, 11, 12, 13, 14] = true := by kernel_rfl
theorem k36t (a b : List Tx) (ha : a.length ≤ 10000000) (hd : ∀ i, (a.getD i default).l.length ≤ 10000000) : KOk cF 36 [txsA a, txsA b] (.bool (bd (a = b))) := by
 refine KOk.of cF_ok eF.g Try.func36 rfl (Nat.le_of_ble_eq_true rfl) fun w F => ?_
 repeat' first | refine Go.seq ?_ | refine Go.region rfl ?_ | refine Ops.nil ?_ | refine Ops.val eF rfl rfl Zw (by first | exact Z1 | exact Z3 | exact Z6) ?_ | refine Go.condNt rfl (fun _ => ?_) (fun _ => ?_) | refine Go.block ?_ | refine Go.skip ?_ | refine Go.retF rfl ?_ rfl
 ·rename_i q
  exact congrArg AV.bool (bd_no fun e => q (by rw [e])).symm
 rename_i q
 have hlen : a.length = b.length := by omega
 refine Go.loop (fun i : Nat => [(0, txsA a), (1, txsA b), (5, .int .i64 i)]) (fun _ => hS) (fun i => i ≤ a.length ∧ ∀ j, j < i → a.getD j default = b.getD j default) (fun i => a.length - i) 0 ⟨by omega, fun j hj => by omega⟩ Zt rfl (fun i hP ih => ?_)
 obtain ⟨hi, hn⟩ := hP
 have hib : i < a.length → i < b.length := fun q => by omega
 by_cases c0 : (i : Int) < (a.length : Int)
 ·have hlt : i < a.length := by omega
  have hltb := hib hlt
  have ks := k66 (a.getD i default).l (b.getD i default).l (hd i)
  let n66 : Ent cF := unitE ks rfl
  repeat' first | refine Go.seq ?_ | refine Go.region rfl ?_ | refine Ops.nil ?_ | refine Ops.val eF rfl rfl Zw (by first | exact Z1 | exact Z3 | exact Z6) ?_ | refine Go.condTt rfl Za ?_ | refine Go.block ?_ | refine Go.skip ?_
  refine Go.draw eF hm [n66] [0, 1, 2, 3, 4, 5, 6, 7, 8, 9, 10, 11] dr36_0 ?_
  repeat' first | refine Dr.nil ?_ | refine Dr.pure rfl rfl rfl rfl Zw (by first | exact Z1 | exact Z4 | exact Y24 | exact Z5) ?_ | refine Dr.light rfl rfl rfl rfl Zw Z5 ?_ | refine Dr.call rfl rfl rfl rfl Zw rfl rfl rfl rfl (by first | exact pans_hd () rfl rfl) ?_
  repeat' first | refine Go.seq ?_
  refine Go.draw eF hm [] [0, 1, 2, 3, 4, 5, 6, 7, 8, 9, 10, 11, 12, 13, 14] dr36_1 ?_
  repeat' first | refine Dr.nil ?_ | refine Dr.pure rfl rfl rfl rfl Zw (by first | exact Z1 | exact Z2 | exact Z3 | exact Z4 | exact Y24 | exact Z5) ?_ | refine Dr.light rfl rfl rfl rfl Zw Z5 ?_ | refine Dr.skip rfl rfl rfl Zn ?_ | refine Dr.gN rfl rfl (fun _ => ?_) (fun _ => ?_)
  repeat' first | refine Go.seq ?_ | refine Go.region rfl ?_ | refine Ops.nil ?_ | refine Ops.val eF rfl rfl Zw (by first | exact Z1 | exact Y14) ?_ | refine Go.condT rfl ?_ | refine Go.condNt rfl (fun _ => ?_) (fun _ => ?_) | refine Go.unblk ?_ | refine Go.skip ?_ | refine Go.retF rfl ?_ rfl
  all_goals try simp only [Int.toNat_natCast] at *
  ·rename_i q
   exact congrArg AV.bool (bd_no fun e => q (by rw [e])).symm
  ·rename_i q
   exact congrArg AV.bool (bd_no fun e => q (by rw [e])).symm
  ·rename_i q1 q2
   exact Go.to (ih (i + 1) ⟨by omega, fun j hj => by rcases Nat.lt_succ_iff_lt_or_eq.1 hj with r | r; exact hn j r; subst r; exact tx_eq q2 q1⟩ (by omega)) Zt
 ·repeat' first | refine Go.seq ?_ | refine Go.region rfl ?_ | refine Ops.nil ?_ | refine Ops.val eF rfl rfl Zw (by first | exact Z1 | exact Z3 | exact Z6) ?_ | refine Go.condFt rfl Za ?_ | refine Go.exit rfl ?_ | refine Go.retF rfl ?_ rfl
  exact congrArg AV.bool (bd_of (getD_ext hlen fun j hj => hn j (by omega))).symm
end Go.Px.Fe
end
section
set_option maxHeartbeats 4000000
set_option maxRecDepth 20000
namespace Go.Px.Fe
open Go.Proofs Go.Px.Fs
attribute [local irreducible] Go.Px.KOk
noncomputable def r9_0 : List Oper := ((drawn (Try.f9.body.getD .skip))[0]?).getD []
theorem drS9_0 : chkOrdS cF r9_0 13 = true := by kernel_rfl
theorem k9 (l : List Tx) (hl : l.length ≤ 900000) : KOk cF 9 [txsA l] (txsA l) := by
 refine KOk.of cF_ok eF.g Try.func9 rfl (Nat.le_of_ble_eq_true rfl) fun w F => ?_
 repeat' first | refine Go.seq ?_ | refine Go.region rfl ?_ | refine Ops.nil ?_ | refine Ops.val eF rfl rfl Zw (by first | exact Z1 | exact Z6) ?_ | refine Go.block ?_
 refine Go.change (Chg.tokS 0 3 54 2 rfl rfl rfl) ?_
 refine Go.toHQ (N := 1) (bs := [.arr 54 2 0 []]) (L' := [(0, txsA l), (3, .own 0 0 2), (6, .int .i64 l.length), (7, .int .i64 0)]) ?_ rfl eF.g Zt rfl rfl ⟨.inr rfl, trivial⟩ Zl rfl rfl
 refine Go.loop (fun i : Nat => [(0, txsA l), (3, .own 0 (l.take i).length 2), (6, .int .i64 l.length), (7, .int .i64 i)]) (fun i => hq 1 [.arr 54 2 (l.take i).length ((l.take i).flatMap encTx)]) (fun i => i ≤ l.length) (fun i => l.length - i) 0 (Nat.zero_le _) Zt rfl (fun i hi ih => ?_)
 have hlt0 : (l.take i).length ≤ l.length := by rw [List.length_take]; exact Nat.min_le_right _ _
 by_cases c0 : (i : Int) < (l.length : Int)
 ·have hlt : i < l.length := by omega
  repeat' first | refine Go.seq ?_ | refine Go.region rfl ?_ | refine Ops.nil ?_ | refine Ops.val eF rfl rfl Zw (by first | exact Z1 | exact Z3) ?_ | refine Go.condTt rfl Za ?_ | refine Go.block ?_ | refine Go.skip ?_
  refine Go.drawS2 eF hm [] 13 [0, 1, 2, 3, 4, 5, 6, 7, 8, 9, 10, 11, 12] rfl drS9_0 ?_
  repeat' first | refine Dr.nil ?_ | refine Dr.pure rfl rfl rfl rfl Zw (by first | exact Z1 | exact Z4 | exact Y24 | exact Z5 | exact Y36) ?_ | refine Dr.light rfl rfl rfl rfl Zw Z5 ?_ | refine Dr.slAt 1 rfl rfl rfl rfl Zw rfl (Hop.bslice eF rfl rfl rfl rfl rfl rfl rfl rfl rfl rfl rfl) ?_
  all_goals refine Go.suf rfl ?_
  refine Ops.change (Chg.frzR 22 rfl rfl rfl rfl (by repeat' first | exact trivial | refine And.intro ?_ ?_ | exact .inr trivial | exact .inr rfl | exact .inl rfl) rfl rfl rfl) ?_
  repeat' first | refine Go.region rfl ?_ | refine Ops.nil ?_ | refine Ops.val eF rfl rfl Zw (by first | exact Z1 | exact Y14) ?_ | refine Ops.appendE eF rfl rfl Zw rfl rfl rfl rfl rfl rfl rfl rfl rfl rfl rfl rfl rfl rfl rfl rfl Zi rfl rfl rfl rfl rfl Zz (by omega) ?_ | refine Go.unblk ?_
  have g := ih (i + 1) (by omega) (by omega)
  rw [take_succ' hlt, List.length_append, List.flatMap_append] at g
  exact Go.toQ g rfl eF.g Zt rfl rfl ⟨.inr rfl, trivial⟩ Zl rfl rfl
 ·have ei : i = l.length := by omega
  subst ei
  rw [List.take_length]
  repeat' first | refine Go.seq ?_ | refine Go.region rfl ?_ | refine Ops.nil ?_ | refine Ops.frzMv eF 2 rfl rfl rfl Zw Z1 rfl Zi rfl rfl rfl rfl ?_ | refine Ops.val eF rfl rfl Zw (by first | exact Z1 | exact Z3) ?_ | refine Go.condFt rfl Za ?_ | refine Go.exit rfl ?_ | refine Go.retF rfl ?_ rfl
  all_goals rfl
theorem k15 (a b : List Tx) (ha : a.length ≤ 900000) (hd : ∀ i, (a.getD i default).l.length ≤ 10000000) : KOk cF 15 [txsA a, txsA b] (.bool (bd (a = b))) := by
 have k1 := k9 a ha
 have k2 := k36t a b (by omega) hd
 refine KOk.of cF_ok eF.g Try.func15 rfl (Nat.le_of_ble_eq_true rfl) fun w F => ?_
 repeat' first | refine Go.seq ?_ | refine Go.region rfl ?_ | refine Ops.nil ?_ | refine Ops.val eF rfl rfl Zw Z1 ?_ | refine Ops.call eF rfl rfl Zw rfl rfl rfl rfl (k1) rfl ?_ | refine Ops.call eF rfl rfl Zw rfl rfl rfl rfl (k2) rfl ?_ | refine Go.retF rfl ?_ rfl
 all_goals rfl
end Go.Px.Fe
end
