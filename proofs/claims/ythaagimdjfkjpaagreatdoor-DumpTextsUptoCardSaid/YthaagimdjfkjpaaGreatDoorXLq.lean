/- Parts of the proof in YthaagimdjfkjpaaGreatDoorXFin: DuX. -/
import Derived.Test.YthaagimdjfkjpaaGreatDoorXLc
import Derived.Test.YthaagimdjfkjpaaGreatDoorXLd
import Derived.Test.YthaagimdjfkjpaaGreatDoorXK4
set_option linter.unusedVariables false
set_option linter.unusedSimpArgs false
section
set_option maxHeartbeats 4000000
set_option maxRecDepth 20000
namespace Go.Px.Du
open Go.Proofs Go.Px.Ds Go.Px.De
attribute [local irreducible] Go.Px.KOk Go.Px.KOkW
noncomputable def r7_0 : List Oper := ((drawn (Tryz.f7.body.getD .skip))[0]?).getD []
theorem drS7_0 : chkOrdS cF r7_0 16 = true := by kernel_rfl
theorem k7 (l : List Tx) (n : Int) (hl : l.length ≤ 900000) : KOk cF 7 [.agg (dmA l n)] (.agg (dmA l n)) := by
 refine KOk.of cF_ok eF.g Tryz.func7 rfl (Nat.le_of_ble_eq_true rfl) fun w F => ?_
 repeat' first | refine Go.seq ?_ | refine Go.region rfl ?_ | refine Ops.nil ?_ | refine Ops.boxR eF rfl rfl Zw rfl rfl rfl rfl ?_ | refine Ops.val eF rfl rfl Zw (by first | exact Z1 | exact Z4 | exact Z5 | exact Z6 | exact Y36) ?_ | refine Ops.rowAt eF 0 rfl rfl Zw rfl (Hop.alloc eF rfl rfl rfl) ?_ | refine Ops.rowAt eF 1 rfl rfl Zw rfl (Hop.alloc eF rfl rfl rfl) ?_ | refine Ops.unit eF rfl Zw (Hop.store eF rfl rfl rfl rfl rfl rfl) (ArrKeep.put rfl) ?_ | refine Go.block ?_
 refine Go.change (Chg.tokCellJ 2 1 0 55 2 2 rfl (by decide) rfl rfl rfl rfl) ?_
 refine Go.toHQ (N := 3) (bs := [.row ⟨33, 2, .leaf, [.nilsl, .int .i64 0], none⟩, .row ⟨33, 2, .leaf, [.own 2 0 2, .int .i64 n], none⟩, .arr 55 2 0 []]) (L' := [(1, .rptr (dmA l n)), (2, .ptr 0 0), (3, .ptr 1 0), (10, .int .i64 l.length), (11, .int .i64 (0 : Nat))]) ?_ rfl eF.g Zt rfl rfl Zg Zl rfl rfl
 refine Go.loop (fun i : Nat => [(1, .rptr (dmA l n)), (2, .ptr 0 0), (3, .ptr 1 0), (10, .int .i64 l.length), (11, .int .i64 i)]) (fun i => hq 3 [.row ⟨33, 2, .leaf, [.nilsl, .int .i64 0], none⟩, .row ⟨33, 2, .leaf, [.own 2 (l.take i).length 2, .int .i64 n], none⟩, .arr 55 2 (l.take i).length ((l.take i).flatMap encTx)]) (fun i => i ≤ l.length) (fun i => l.length - i) 0 (Nat.zero_le _) Zt rfl (fun i hi ih => ?_)
 have hlt0 : (l.take i).length ≤ l.length := by rw [List.length_take]; exact Nat.min_le_right _ _
 by_cases c0 : (i : Int) < (l.length : Int)
 ·have hlt : i < l.length := by omega
  repeat' first | refine Go.seq ?_ | refine Go.region rfl ?_ | refine Ops.nil ?_ | refine Ops.val eF rfl rfl Zw (by first | exact Z1 | exact Z3) ?_ | refine Go.condTt rfl Za ?_ | refine Go.block ?_ | refine Go.skip ?_
  refine Go.drawS2 eF hm [] 16 [0, 1, 2, 3, 4, 5, 6, 7, 8, 9, 10, 11, 12, 13, 14, 15] rfl drS7_0 ?_
  repeat' first | refine Dr.nil ?_ | refine Dr.pure rfl rfl rfl rfl Zw (by first | exact Z1 | exact Z4 | exact Y24 | exact Z5 | exact Y36) ?_ | refine Dr.light rfl rfl rfl rfl Zw Z5 ?_ | refine Dr.slAt 3 rfl rfl rfl rfl Zw rfl (Hop.bslice eF rfl rfl rfl rfl rfl rfl rfl rfl rfl rfl rfl) ?_
  all_goals refine Go.suf rfl ?_
  refine Ops.change (Chg.frzR 29 rfl rfl rfl rfl (by repeat' first | exact trivial | refine And.intro ?_ ?_ | exact .inr (ind_row rfl rfl) | exact .inr trivial | exact .inr rfl | exact .inl rfl) rfl rfl rfl) ?_
  repeat' first | refine Go.region rfl ?_ | refine Ops.nil ?_ | refine Ops.val eF rfl rfl Zw (by first | exact Z1 | exact Y14 | exact Z4) ?_ | refine Ops.appendE eF rfl rfl Zw rfl rfl rfl rfl rfl rfl rfl rfl rfl rfl rfl rfl rfl rfl rfl rfl Zi rfl rfl rfl rfl rfl Zz (by omega) ?_ | refine Ops.unit eF rfl Zw (Hop.store eF rfl rfl rfl rfl rfl rfl) (ArrKeep.put rfl) ?_ | refine Go.unblk ?_
  have g := ih (i + 1) (by omega) (by omega)
  rw [take_succ' hlt, List.length_append, List.flatMap_append] at g
  exact Go.toQ g rfl eF.g Zt rfl rfl Zg Zl rfl rfl
 ·have ei : i = l.length := by omega
  subst ei
  rw [List.take_length] at *
  repeat' first | refine Go.change (Chg.cellFrzJ 1 2 0 2 rfl (by decide) rfl rfl rfl Zj rfl rfl rfl) ?_ | refine Go.seq ?_ | refine Go.region rfl ?_ | refine Ops.nil ?_ | refine Ops.val eF rfl rfl Zw (by first | exact Z3 | exact Z5) ?_ | refine Ops.unit eF rfl Zw (Hop.store eF rfl rfl rfl rfl rfl rfl) (ArrKeep.put rfl) ?_ | refine Go.condFt rfl Za ?_ | refine Go.exit rfl ?_
  exact Go.retFc [_] rfl ⟨Hop.ldPG eF rfl rfl rfl rfl rfl rfl rfl, trivial⟩ rfl rfl
end Go.Px.Du
end
