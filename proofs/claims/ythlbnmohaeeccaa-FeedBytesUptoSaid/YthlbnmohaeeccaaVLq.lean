/- Parts of the proof in YthlbnmohaeeccaaVFin: FeCh. -/
import Derived.Test.YthlbnmohaeeccaaVLg
import Derived.Test.YthlbnmohaeeccaaVLj
import Derived.Test.YthlbnmohaeeccaaVLn
import Derived.Test.YthlbnmohaeeccaaVLo
import Derived.Test.YthlbnmohaeeccaaVLp
import Derived.Test.YthlbnmohaeeccaaVK4
set_option linter.unusedVariables false
set_option linter.unusedSimpArgs false
section
set_option maxHeartbeats 4000000
set_option maxRecDepth 200000
namespace Go.Px.Fe
open Go.Proofs Go.Px.Fs
attribute [local irreducible] Go.Px.KOk
theorem k11n' (l : List Tx) (hl : l.length ≤ 1000000) (hd : ∀ i, (l.getD i default).l.length ≤ 1000000) (hs : ∀ i k, ((l.getD i default).l.getD k default).v.s.length ≤ 100000) (hA : ¬ AllT l) : KOk cF 11 [txsA l] (.tup [.nilsl, .int .i64 270]) := by
 have k1 : KOk cF 8 [txsA l] (.bool false) := by
  have := k8 l hl hd hs
  rwa [bd_no hA] at this
 refine KOk.of cF_ok eF.g Try.func11 rfl (Nat.le_of_ble_eq_true rfl) fun w F => ?_
 repeat' first | refine Go.seq ?_ | refine Go.region rfl ?_ | refine Ops.nil ?_ | refine Ops.val eF rfl rfl Zw (by first | exact Z1 | exact Z2 | exact Z3 | exact Y12 | exact Y13 | exact Y14 | exact Y15 | exact Z4 | exact Y24 | exact Y25 | exact Z5 | exact Y31 | exact Z6) ?_ | refine Ops.skip rfl rfl Zn ?_ | refine Ops.skipU rfl Zn ?_ | refine Ops.gT rfl rfl Za ?_ | refine Ops.gF rfl rfl Za ?_ | refine Ops.gP rfl rfl (fun _ => ?_) (fun _ => ?_) | refine Ops.gN rfl rfl (fun _ => ?_) (fun _ => ?_) | refine Ops.call eF rfl rfl Zw rfl rfl rfl rfl (k1) rfl ?_ | refine Ops.clone eF rfl rfl Zw rfl rfl rfl rfl rfl rfl rfl rfl rfl rfl rfl rfl rfl rfl rfl rfl rfl (dats_flat (fun _ => rfl) _) (flat_len (fun _ => rfl) _) (by omega) (by omega) ?_ | refine Ops.appendE eF rfl rfl Zw rfl rfl rfl rfl rfl rfl rfl rfl rfl rfl rfl rfl rfl rfl rfl rfl Zi rfl rfl rfl rfl rfl Zz (by omega) ?_ | refine Ops.appendNAt eF 0 rfl rfl rfl (fun _ => by first | exact Want.no rfl | exact Want.tT rfl rfl rfl rfl | exact Want.fF rfl rfl rfl rfl) rfl rfl rfl rfl rfl rfl (fun _ => rfl) rfl rfl rfl rfl rfl rfl rfl rfl Zi rfl rfl rfl rfl rfl Zz (by omega) ?_ | refine Ops.appendNAt eF 1 rfl rfl rfl (fun _ => by first | exact Want.no rfl | exact Want.tT rfl rfl rfl rfl | exact Want.fF rfl rfl rfl rfl) rfl rfl rfl rfl rfl rfl (fun _ => rfl) rfl rfl rfl rfl rfl rfl rfl rfl Zi rfl rfl rfl rfl rfl Zz (by omega) ?_ | refine Ops.appendNAt eF 2 rfl rfl rfl (fun _ => by first | exact Want.no rfl | exact Want.tT rfl rfl rfl rfl | exact Want.fF rfl rfl rfl rfl) rfl rfl rfl rfl rfl rfl (fun _ => rfl) rfl rfl rfl rfl rfl rfl rfl rfl Zi rfl rfl rfl rfl rfl Zz (by omega) ?_ | refine Ops.appendNAt eF 3 rfl rfl rfl (fun _ => by first | exact Want.no rfl | exact Want.tT rfl rfl rfl rfl | exact Want.fF rfl rfl rfl rfl) rfl rfl rfl rfl rfl rfl (fun _ => rfl) rfl rfl rfl rfl rfl rfl rfl rfl Zi rfl rfl rfl rfl rfl Zz (by omega) ?_ | refine Ops.appendNAt eF 4 rfl rfl rfl (fun _ => by first | exact Want.no rfl | exact Want.tT rfl rfl rfl rfl | exact Want.fF rfl rfl rfl rfl) rfl rfl rfl rfl rfl rfl (fun _ => rfl) rfl rfl rfl rfl rfl rfl rfl rfl Zi rfl rfl rfl rfl rfl Zz (by omega) ?_ | refine Ops.appendNAt eF 5 rfl rfl rfl (fun _ => by first | exact Want.no rfl | exact Want.tT rfl rfl rfl rfl | exact Want.fF rfl rfl rfl rfl) rfl rfl rfl rfl rfl rfl (fun _ => rfl) rfl rfl rfl rfl rfl rfl rfl rfl Zi rfl rfl rfl rfl rfl Zz (by omega) ?_ | refine Ops.appendNAt eF 6 rfl rfl rfl (fun _ => by first | exact Want.no rfl | exact Want.tT rfl rfl rfl rfl | exact Want.fF rfl rfl rfl rfl) rfl rfl rfl rfl rfl rfl (fun _ => rfl) rfl rfl rfl rfl rfl rfl rfl rfl Zi rfl rfl rfl rfl rfl Zz (by omega) ?_ | refine Ops.appendNAt eF 7 rfl rfl rfl (fun _ => by first | exact Want.no rfl | exact Want.tT rfl rfl rfl rfl | exact Want.fF rfl rfl rfl rfl) rfl rfl rfl rfl rfl rfl (fun _ => rfl) rfl rfl rfl rfl rfl rfl rfl rfl Zi rfl rfl rfl rfl rfl Zz (by omega) ?_ | refine Ops.appendNAt eF 8 rfl rfl rfl (fun _ => by first | exact Want.no rfl | exact Want.tT rfl rfl rfl rfl | exact Want.fF rfl rfl rfl rfl) rfl rfl rfl rfl rfl rfl (fun _ => rfl) rfl rfl rfl rfl rfl rfl rfl rfl Zi rfl rfl rfl rfl rfl Zz (by omega) ?_ | refine Ops.rowAt eF 0 rfl rfl Zw rfl (Hop.alloc eF rfl rfl rfl) ?_ | refine Ops.rowAt eF 1 rfl rfl Zw rfl (Hop.alloc eF rfl rfl rfl) ?_ | refine Ops.rowAt eF 2 rfl rfl Zw rfl (Hop.alloc eF rfl rfl rfl) ?_ | refine Ops.rowAt eF 3 rfl rfl Zw rfl (Hop.alloc eF rfl rfl rfl) ?_ | refine Ops.rowAt eF 4 rfl rfl Zw rfl (Hop.alloc eF rfl rfl rfl) ?_ | refine Ops.rowAt eF 5 rfl rfl Zw rfl (Hop.alloc eF rfl rfl rfl) ?_ | refine Ops.rowAt eF 6 rfl rfl Zw rfl (Hop.alloc eF rfl rfl rfl) ?_ | refine Ops.rowAt eF 7 rfl rfl Zw rfl (Hop.alloc eF rfl rfl rfl) ?_ | refine Ops.rowAt eF 8 rfl rfl Zw rfl (Hop.alloc eF rfl rfl rfl) ?_ | refine Ops.unit eF rfl Zw (Hop.store eF rfl rfl rfl rfl rfl rfl) (ArrKeep.put rfl) ?_ | refine Go.condT rfl ?_ | refine Go.condF rfl ?_ | refine Go.condTt rfl Za ?_ | refine Go.condFt rfl Za ?_ | refine Go.condPt rfl (fun _ => ?_) (fun _ => ?_) | refine Go.condNt rfl (fun _ => ?_) (fun _ => ?_) | refine Go.block ?_ | refine Go.unblk ?_ | refine Go.skip ?_ | refine Go.exit rfl ?_ | refine Go.retF rfl ?_ rfl | refine Go.endF rfl ?_ rfl | refine Go.retFm rfl rfl ?_ rfl | refine Go.endFm rfl rfl ?_ rfl | refine Go.retI rfl ?_ | refine Go.retM rfl rfl ?_ ?_ rfl | refine Go.endM rfl rfl ?_ ?_ rfl | refine Go.retY rfl rfl rfl ?_ | refine Go.endY rfl rfl rfl ?_ | refine (Ops.val eF rfl rfl Zw (by exact Hop.ldFG eF rfl rfl rfl rfl rfl rfl rfl (fun _ => rfl) (by omega)) ?_) | refine Go.endI rfl ?_
 rfl
theorem eqT (p : Prop) : eqv cF 6 4 (.bool (bd p)) (.bool true) = some (bd p) := by
 show some (bd p == true) = _
 cases bd p <;> rfl
theorem eqF (p : Prop) : eqv cF 6 4 (.bool (bd p)) (.bool false) = some (!bd p) := by
 show some (bd p == false) = _
 cases bd p <;> rfl
theorem kL3 (l : List Tx) (b : Str) (hl : l.length ≤ 10000000) (hd : ∀ i, sumD (l.getD i default).l ≤ 1000000000) (hn : ∀ i, (l.getD i default).l.length ≤ 10000000) (hb : b.length ≤ 100000000) : KOk cF 3 [txsA l, bysA b] (.bool true) := by
 have k1 := k7 l hl hd hn
 refine KOk.of cF_ok eF.g Try.func3 rfl (Nat.le_of_ble_eq_true rfl) fun w F => ?_
 by_cases hG : GreatT l
 ·rw [bd_of hG] at k1
  as_aux_lemma =>
   repeat' first | refine Go.seq ?_ | refine Go.region rfl ?_ | refine Ops.nil ?_ | refine Go.condNp rfl Za ?_ | refine Go.condNn rfl Za ?_ | refine Ops.gNp rfl rfl Za ?_ | refine Ops.gNn rfl rfl Za ?_ | refine Ops.val eF rfl rfl Zw (by first | exact Z1 | exact Z2 | exact Z3 | exact Y12 | exact Y20 | exact Hop.conv eF rfl rfl rfl rfl rfl (wr_u64 (by omega)) | exact Z6) ?_ | refine Ops.skip rfl rfl Zn ?_ | refine Ops.skipU rfl Zn ?_ | refine Ops.gT rfl rfl Za ?_ | refine Ops.gF rfl rfl Za ?_ | refine Ops.gP rfl rfl (fun _ => ?_) (fun _ => ?_) | refine Ops.gN rfl rfl (fun _ => ?_) (fun _ => ?_) | refine Ops.call eF rfl rfl Zw rfl rfl rfl rfl (k1) rfl ?_ | refine Ops.bytes eF rfl rfl Zw rfl rfl rfl rfl rfl rfl rfl rfl ?_ | refine Ops.bytes eF rfl rfl Zw rfl rfl rfl rfl rfl rfl rfl rfl ?_ | refine Go.condT rfl ?_ | refine Go.condF rfl ?_ | refine Go.condTt rfl Za ?_ | refine Go.condFt rfl Za ?_ | refine Go.condPt rfl (fun _ => ?_) (fun _ => ?_) | refine Go.condNt rfl (fun _ => ?_) (fun _ => ?_) | refine Go.skip ?_ | refine Go.retF rfl ?_ rfl | refine Go.endF rfl ?_ rfl | refine Go.retFm rfl rfl ?_ rfl | refine Go.endFm rfl rfl ?_ rfl | refine Go.retI rfl ?_ | refine Go.retM rfl rfl ?_ ?_ rfl | refine Go.endM rfl rfl ?_ ?_ rfl | refine Go.retY rfl rfl rfl ?_ | refine Go.endY rfl rfl rfl ?_ | refine Go.endI rfl ?_
   rfl
 ·rw [bd_no hG] at k1
  by_cases hb6 : (b.length : Int) > 6000
  ·as_aux_lemma =>
    repeat' first | refine Go.seq ?_ | refine Go.region rfl ?_ | refine Ops.nil ?_ | refine Go.condNp rfl Za ?_ | refine Go.condNn rfl Za ?_ | refine Ops.gNp rfl rfl Za ?_ | refine Ops.gNn rfl rfl Za ?_ | refine Ops.val eF rfl rfl Zw (by first | exact Z1 | exact Z2 | exact Z3 | exact Y12 | exact Y20 | exact Hop.conv eF rfl rfl rfl rfl rfl (wr_u64 (by omega)) | exact Z6) ?_ | refine Ops.skip rfl rfl Zn ?_ | refine Ops.skipU rfl Zn ?_ | refine Ops.gT rfl rfl Za ?_ | refine Ops.gF rfl rfl Za ?_ | refine Ops.gP rfl rfl (fun _ => ?_) (fun _ => ?_) | refine Ops.gN rfl rfl (fun _ => ?_) (fun _ => ?_) | refine Ops.call eF rfl rfl Zw rfl rfl rfl rfl (k1) rfl ?_ | refine Ops.bytes eF rfl rfl Zw rfl rfl rfl rfl rfl rfl rfl rfl ?_ | refine Ops.bytes eF rfl rfl Zw rfl rfl rfl rfl rfl rfl rfl rfl ?_ | refine Go.condT rfl ?_ | refine Go.condF rfl ?_ | refine Go.condTt rfl Za ?_ | refine Go.condFt rfl Za ?_ | refine Go.condPt rfl (fun _ => ?_) (fun _ => ?_) | refine Go.condNt rfl (fun _ => ?_) (fun _ => ?_) | refine Go.skip ?_ | refine Go.retF rfl ?_ rfl | refine Go.endF rfl ?_ rfl | refine Go.retFm rfl rfl ?_ rfl | refine Go.endFm rfl rfl ?_ rfl | refine Go.retI rfl ?_ | refine Go.retM rfl rfl ?_ ?_ rfl | refine Go.endM rfl rfl ?_ ?_ rfl | refine Go.retY rfl rfl rfl ?_ | refine Go.endY rfl rfl rfl ?_ | refine Go.endI rfl ?_
    rfl
  ·obtain ⟨s1, s2, s3, s4⟩ := small_of hG
   have k2 := k9 l (by omega)
   have k3 := k8 l (by omega) (fun i => Nat.le_trans (s2 i) (by decide)) (fun i k => Nat.le_trans (s3 i k) (by decide))
   have k4 := k14 l (by omega) (fun i => Nat.le_trans (s2 i) (by decide)) (fun i k => Nat.le_trans (s3 i k) (by decide))
   have k5 := k12 b (by omega)
   have k6 := k13 b (by omega)
   rw [pRead_tau] at k6
   have hsm : ∀ r, pRead sgT b = some r → r.length ≤ 900000 ∧ ∀ i, (r.getD i default).l.length ≤ 10000000 := fun r hr => by
    obtain ⟨_, _, raw, q1, q2⟩ := pRead_w hr
    have q := raw_small sgT q1
    rw [← q2] at q
    exact ⟨by omega, fun i => by have := q.2.1 i; omega⟩
   by_cases hA : AllT l
   ·have k7 := k10 l (by omega) (fun i => Nat.le_trans (s2 i) (by decide)) (all_s hA) (by omega) hA
    have k8 := k11 l (by omega) (fun i => Nat.le_trans (s2 i) (by decide)) (all_s hA) (by omega) hA
    rw [bd_of hA] at k3 k4
    simp only [cond_true] at k4
    cases hr : pRead sgT b with
    | none =>
     rw [hr] at k5 k6
     have k9 := k15 [] [] (by decide) (fun i => by rw [List.getD_nil]; exact Nat.zero_le _)
     rw [bd_of (show ([] : List Tx) = [] from rfl)] at k9
     simp only [feedR] at k5 k6
     as_aux_lemma =>
      repeat' first | refine Go.seq ?_ | refine Go.region rfl ?_ | refine Ops.nil ?_ | refine Go.condNp rfl Za ?_ | refine Go.condNn rfl Za ?_ | refine Ops.gNp rfl rfl Za ?_ | refine Ops.gNn rfl rfl Za ?_ | refine Ops.weakAt eF 10 rfl rfl Zw (Hop.assign rfl rfl) (weak_nil 2) ?_ | refine Ops.weakAt eF 12 rfl rfl Zw (Hop.assign rfl rfl) (weak_nil 2) ?_ | refine Ops.val eF rfl rfl Zw Zs ?_ | refine Ops.val eF rfl rfl Zw (Hop.strN eF rfl rfl rfl rfl rfl rfl rfl rfl) ?_ | refine Ops.val eF rfl rfl Zw (Hop.eqD rfl rfl rfl rfl (eqT _)) ?_ | refine Ops.val eF rfl rfl Zw (Hop.eqD rfl rfl rfl rfl (eqF _)) ?_ | refine Ops.val eF rfl rfl Zw (by first | exact Z1 | exact Z2 | exact Z3 | exact Y12 | exact Y20 | exact Hop.conv eF rfl rfl rfl rfl rfl (wr_u64 (by omega)) | exact Z6) ?_ | refine Ops.skip rfl rfl Zn ?_ | refine Ops.skipU rfl Zn ?_ | refine Ops.gT rfl rfl Za ?_ | refine Ops.gF rfl rfl Za ?_ | refine Ops.gP rfl rfl (fun _ => ?_) (fun _ => ?_) | refine Ops.gN rfl rfl (fun _ => ?_) (fun _ => ?_) | refine Ops.call eF rfl rfl Zw rfl rfl rfl rfl (k1) rfl ?_ | refine Ops.call eF rfl rfl Zw rfl rfl rfl rfl (k2) rfl ?_ | refine Ops.call eF rfl rfl Zw rfl rfl rfl rfl (k3) rfl ?_ | refine Ops.call eF rfl rfl Zw rfl rfl rfl rfl (k4) rfl ?_ | refine Ops.call eF rfl rfl Zw rfl rfl rfl rfl (k5) rfl ?_ | refine Ops.call eF rfl rfl Zw rfl rfl rfl rfl (k6) rfl ?_ | refine Ops.call eF rfl rfl Zw rfl rfl rfl rfl (k7) rfl ?_ | refine Ops.call eF rfl rfl Zw rfl rfl rfl rfl (k8) rfl ?_ | refine Ops.call eF rfl rfl Zw rfl rfl rfl rfl (k9) rfl ?_ | refine Ops.bytes eF rfl rfl Zw rfl rfl rfl rfl rfl rfl rfl rfl ?_ | refine Ops.bytes eF rfl rfl Zw rfl rfl rfl rfl rfl rfl rfl rfl ?_ | refine Go.condT rfl ?_ | refine Go.condF rfl ?_ | refine Go.condTt rfl Za ?_ | refine Go.condFt rfl Za ?_ | refine Go.condPt rfl (fun _ => ?_) (fun _ => ?_) | refine Go.condNt rfl (fun _ => ?_) (fun _ => ?_) | refine Go.skip ?_ | refine Go.retF rfl ?_ rfl | refine Go.endF rfl ?_ rfl | refine Go.retFm rfl rfl ?_ rfl | refine Go.endFm rfl rfl ?_ rfl | refine Go.retI rfl ?_ | refine Go.retM rfl rfl ?_ ?_ rfl | refine Go.endM rfl rfl ?_ ?_ rfl | refine Go.retY rfl rfl rfl ?_ | refine Go.endY rfl rfl rfl ?_ | refine Go.endI rfl ?_
      all_goals first
       | (rw [bd_of rfl]; rfl)
       | (rename_i q; exact absurd rfl q)
    | some r =>
     have k9 := k15 r r (hsm r hr).1 (hsm r hr).2
     rw [bd_of (show r = r from rfl)] at k9
     rw [hr] at k5 k6
     simp only [feedR] at k5 k6
     as_aux_lemma =>
      repeat' first | refine Go.seq ?_ | refine Go.region rfl ?_ | refine Ops.nil ?_ | refine Go.condNp rfl Za ?_ | refine Go.condNn rfl Za ?_ | refine Ops.gNp rfl rfl Za ?_ | refine Ops.gNn rfl rfl Za ?_ | refine Ops.weakAt eF 10 rfl rfl Zw (Hop.assign rfl rfl) (weak_nil 2) ?_ | refine Ops.weakAt eF 12 rfl rfl Zw (Hop.assign rfl rfl) (weak_nil 2) ?_ | refine Ops.val eF rfl rfl Zw Zs ?_ | refine Ops.val eF rfl rfl Zw (Hop.strN eF rfl rfl rfl rfl rfl rfl rfl rfl) ?_ | refine Ops.val eF rfl rfl Zw (Hop.eqD rfl rfl rfl rfl (eqT _)) ?_ | refine Ops.val eF rfl rfl Zw (Hop.eqD rfl rfl rfl rfl (eqF _)) ?_ | refine Ops.val eF rfl rfl Zw (by first | exact Z1 | exact Z2 | exact Z3 | exact Y12 | exact Y20 | exact Hop.conv eF rfl rfl rfl rfl rfl (wr_u64 (by omega)) | exact Z6) ?_ | refine Ops.skip rfl rfl Zn ?_ | refine Ops.skipU rfl Zn ?_ | refine Ops.gT rfl rfl Za ?_ | refine Ops.gF rfl rfl Za ?_ | refine Ops.gP rfl rfl (fun _ => ?_) (fun _ => ?_) | refine Ops.gN rfl rfl (fun _ => ?_) (fun _ => ?_) | refine Ops.call eF rfl rfl Zw rfl rfl rfl rfl (k1) rfl ?_ | refine Ops.call eF rfl rfl Zw rfl rfl rfl rfl (k2) rfl ?_ | refine Ops.call eF rfl rfl Zw rfl rfl rfl rfl (k3) rfl ?_ | refine Ops.call eF rfl rfl Zw rfl rfl rfl rfl (k4) rfl ?_ | refine Ops.call eF rfl rfl Zw rfl rfl rfl rfl (k5) rfl ?_ | refine Ops.call eF rfl rfl Zw rfl rfl rfl rfl (k6) rfl ?_ | refine Ops.call eF rfl rfl Zw rfl rfl rfl rfl (k7) rfl ?_ | refine Ops.call eF rfl rfl Zw rfl rfl rfl rfl (k8) rfl ?_ | refine Ops.call eF rfl rfl Zw rfl rfl rfl rfl (k9) rfl ?_ | refine Ops.bytes eF rfl rfl Zw rfl rfl rfl rfl rfl rfl rfl rfl ?_ | refine Ops.bytes eF rfl rfl Zw rfl rfl rfl rfl rfl rfl rfl rfl ?_ | refine Go.condT rfl ?_ | refine Go.condF rfl ?_ | refine Go.condTt rfl Za ?_ | refine Go.condFt rfl Za ?_ | refine Go.condPt rfl (fun _ => ?_) (fun _ => ?_) | refine Go.condNt rfl (fun _ => ?_) (fun _ => ?_) | refine Go.skip ?_ | refine Go.retF rfl ?_ rfl | refine Go.endF rfl ?_ rfl | refine Go.retFm rfl rfl ?_ rfl | refine Go.endFm rfl rfl ?_ rfl | refine Go.retI rfl ?_ | refine Go.retM rfl rfl ?_ ?_ rfl | refine Go.endM rfl rfl ?_ ?_ rfl | refine Go.retY rfl rfl rfl ?_ | refine Go.endY rfl rfl rfl ?_ | refine Go.endI rfl ?_
      all_goals first
       | (rw [bd_of rfl]; rfl)
       | (rename_i q; exact absurd rfl q)
   ·have k7 := k10n' l (by omega) (fun i => Nat.le_trans (s2 i) (by decide)) (fun i k => Nat.le_trans (s3 i k) (by decide)) hA
    have k8 := k11n' l (by omega) (fun i => Nat.le_trans (s2 i) (by decide)) (fun i k => Nat.le_trans (s3 i k) (by decide)) hA
    rw [bd_no hA] at k3 k4
    simp only [cond_false] at k4
    cases hr : pRead sgT b with
    | none =>
     rw [hr] at k5 k6
     have k9 := k15 [] [] (by decide) (fun i => by rw [List.getD_nil]; exact Nat.zero_le _)
     rw [bd_of (show ([] : List Tx) = [] from rfl)] at k9
     simp only [feedR] at k5 k6
     as_aux_lemma =>
      repeat' first | refine Go.seq ?_ | refine Go.region rfl ?_ | refine Ops.nil ?_ | refine Go.condNp rfl Za ?_ | refine Go.condNn rfl Za ?_ | refine Ops.gNp rfl rfl Za ?_ | refine Ops.gNn rfl rfl Za ?_ | refine Ops.weakAt eF 10 rfl rfl Zw (Hop.assign rfl rfl) (weak_nil 2) ?_ | refine Ops.weakAt eF 12 rfl rfl Zw (Hop.assign rfl rfl) (weak_nil 2) ?_ | refine Ops.val eF rfl rfl Zw Zs ?_ | refine Ops.val eF rfl rfl Zw (Hop.strN eF rfl rfl rfl rfl rfl rfl rfl rfl) ?_ | refine Ops.val eF rfl rfl Zw (Hop.eqD rfl rfl rfl rfl (eqT _)) ?_ | refine Ops.val eF rfl rfl Zw (Hop.eqD rfl rfl rfl rfl (eqF _)) ?_ | refine Ops.val eF rfl rfl Zw (by first | exact Z1 | exact Z2 | exact Z3 | exact Y12 | exact Y20 | exact Hop.conv eF rfl rfl rfl rfl rfl (wr_u64 (by omega)) | exact Z6) ?_ | refine Ops.skip rfl rfl Zn ?_ | refine Ops.skipU rfl Zn ?_ | refine Ops.gT rfl rfl Za ?_ | refine Ops.gF rfl rfl Za ?_ | refine Ops.gP rfl rfl (fun _ => ?_) (fun _ => ?_) | refine Ops.gN rfl rfl (fun _ => ?_) (fun _ => ?_) | refine Ops.call eF rfl rfl Zw rfl rfl rfl rfl (k1) rfl ?_ | refine Ops.call eF rfl rfl Zw rfl rfl rfl rfl (k2) rfl ?_ | refine Ops.call eF rfl rfl Zw rfl rfl rfl rfl (k3) rfl ?_ | refine Ops.call eF rfl rfl Zw rfl rfl rfl rfl (k4) rfl ?_ | refine Ops.call eF rfl rfl Zw rfl rfl rfl rfl (k5) rfl ?_ | refine Ops.call eF rfl rfl Zw rfl rfl rfl rfl (k6) rfl ?_ | refine Ops.call eF rfl rfl Zw rfl rfl rfl rfl (k7) rfl ?_ | refine Ops.call eF rfl rfl Zw rfl rfl rfl rfl (k8) rfl ?_ | refine Ops.call eF rfl rfl Zw rfl rfl rfl rfl (k9) rfl ?_ | refine Ops.bytes eF rfl rfl Zw rfl rfl rfl rfl rfl rfl rfl rfl ?_ | refine Ops.bytes eF rfl rfl Zw rfl rfl rfl rfl rfl rfl rfl rfl ?_ | refine Go.condT rfl ?_ | refine Go.condF rfl ?_ | refine Go.condTt rfl Za ?_ | refine Go.condFt rfl Za ?_ | refine Go.condPt rfl (fun _ => ?_) (fun _ => ?_) | refine Go.condNt rfl (fun _ => ?_) (fun _ => ?_) | refine Go.skip ?_ | refine Go.retF rfl ?_ rfl | refine Go.endF rfl ?_ rfl | refine Go.retFm rfl rfl ?_ rfl | refine Go.endFm rfl rfl ?_ rfl | refine Go.retI rfl ?_ | refine Go.retM rfl rfl ?_ ?_ rfl | refine Go.endM rfl rfl ?_ ?_ rfl | refine Go.retY rfl rfl rfl ?_ | refine Go.endY rfl rfl rfl ?_ | refine Go.endI rfl ?_
      all_goals first
       | (rw [bd_of rfl]; rfl)
       | (rename_i q; exact absurd rfl q)
    | some r =>
     have k9 := k15 r r (hsm r hr).1 (hsm r hr).2
     rw [bd_of (show r = r from rfl)] at k9
     rw [hr] at k5 k6
     simp only [feedR] at k5 k6
     as_aux_lemma =>
      repeat' first | refine Go.seq ?_ | refine Go.region rfl ?_ | refine Ops.nil ?_ | refine Go.condNp rfl Za ?_ | refine Go.condNn rfl Za ?_ | refine Ops.gNp rfl rfl Za ?_ | refine Ops.gNn rfl rfl Za ?_ | refine Ops.weakAt eF 10 rfl rfl Zw (Hop.assign rfl rfl) (weak_nil 2) ?_ | refine Ops.weakAt eF 12 rfl rfl Zw (Hop.assign rfl rfl) (weak_nil 2) ?_ | refine Ops.val eF rfl rfl Zw Zs ?_ | refine Ops.val eF rfl rfl Zw (Hop.strN eF rfl rfl rfl rfl rfl rfl rfl rfl) ?_ | refine Ops.val eF rfl rfl Zw (Hop.eqD rfl rfl rfl rfl (eqT _)) ?_ | refine Ops.val eF rfl rfl Zw (Hop.eqD rfl rfl rfl rfl (eqF _)) ?_ | refine Ops.val eF rfl rfl Zw (by first | exact Z1 | exact Z2 | exact Z3 | exact Y12 | exact Y20 | exact Hop.conv eF rfl rfl rfl rfl rfl (wr_u64 (by omega)) | exact Z6) ?_ | refine Ops.skip rfl rfl Zn ?_ | refine Ops.skipU rfl Zn ?_ | refine Ops.gT rfl rfl Za ?_ | refine Ops.gF rfl rfl Za ?_ | refine Ops.gP rfl rfl (fun _ => ?_) (fun _ => ?_) | refine Ops.gN rfl rfl (fun _ => ?_) (fun _ => ?_) | refine Ops.call eF rfl rfl Zw rfl rfl rfl rfl (k1) rfl ?_ | refine Ops.call eF rfl rfl Zw rfl rfl rfl rfl (k2) rfl ?_ | refine Ops.call eF rfl rfl Zw rfl rfl rfl rfl (k3) rfl ?_ | refine Ops.call eF rfl rfl Zw rfl rfl rfl rfl (k4) rfl ?_ | refine Ops.call eF rfl rfl Zw rfl rfl rfl rfl (k5) rfl ?_ | refine Ops.call eF rfl rfl Zw rfl rfl rfl rfl (k6) rfl ?_ | refine Ops.call eF rfl rfl Zw rfl rfl rfl rfl (k7) rfl ?_ | refine Ops.call eF rfl rfl Zw rfl rfl rfl rfl (k8) rfl ?_ | refine Ops.call eF rfl rfl Zw rfl rfl rfl rfl (k9) rfl ?_ | refine Ops.bytes eF rfl rfl Zw rfl rfl rfl rfl rfl rfl rfl rfl ?_ | refine Ops.bytes eF rfl rfl Zw rfl rfl rfl rfl rfl rfl rfl rfl ?_ | refine Go.condT rfl ?_ | refine Go.condF rfl ?_ | refine Go.condTt rfl Za ?_ | refine Go.condFt rfl Za ?_ | refine Go.condPt rfl (fun _ => ?_) (fun _ => ?_) | refine Go.condNt rfl (fun _ => ?_) (fun _ => ?_) | refine Go.skip ?_ | refine Go.retF rfl ?_ rfl | refine Go.endF rfl ?_ rfl | refine Go.retFm rfl rfl ?_ rfl | refine Go.endFm rfl rfl ?_ rfl | refine Go.retI rfl ?_ | refine Go.retM rfl rfl ?_ ?_ rfl | refine Go.endM rfl rfl ?_ ?_ rfl | refine Go.retY rfl rfl rfl ?_ | refine Go.endY rfl rfl rfl ?_ | refine Go.endI rfl ?_
      all_goals first
       | (rw [bd_of rfl]; rfl)
       | (rename_i q; exact absurd rfl q)
end Go.Px.Fe
end
