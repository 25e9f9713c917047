/- Parts of the proof in YtdccabejobkkcaaRFin: LrF. -/
import Derived.Test.YtdccabejobkkcaaRLc
import Derived.Test.YtdccabejobkkcaaRK4
set_option linter.unusedVariables false
set_option linter.unusedSimpArgs false
section
set_option maxHeartbeats 4000000
set_option maxRecDepth 20000
namespace Go.Px.Lr
open Go.Proofs
attribute [local irreducible] Go.Px.KOk
noncomputable def opA (l : List Str) (room : Int) : AV := bif bd (SegsP l) then .tup [.agg [segA (segs l), .int .i64 room], .int .i64 0] else .tup [.agg [.nilsl, .int .i64 0], .int .i64 230]
theorem segs_len (l : List Str) : (segs l).length = l.length := by unfold segs; rw [List.length_map]
theorem take_succ'' {α : Type} [Inhabited α] {l : List α} {i : Nat} (h : i < l.length) : l.take (i + 1) = l.take i ++ [l.getD i default] := by
 rw [List.take_add_one, List.getElem?_eq_getElem h, List.getD_eq_getElem?_getD, List.getElem?_eq_getElem h]; rfl
theorem segs_at {l : List Str} {i j : Nat} (hj : j < i) (hi : i ≤ l.length) : (segs (l.take i)).getD j default = (recs (l.getD j default)).1 := by
 unfold segs
 rw [List.getD_eq_getElem?_getD, List.getElem?_map, List.getElem?_take_of_lt hj, List.getElem?_eq_getElem (by omega), List.getD_eq_getElem?_getD, List.getElem?_eq_getElem (by omega)]; rfl
theorem segs_succ {l : List Str} {i : Nat} (h : i < l.length) : segs (l.take (i + 1)) = segs (l.take i) ++ [(recs (l.getD i default)).1] := by
 unfold segs; rw [take_succ'' h, List.map_append]; rfl
def In9 (l : List Str) (i : Nat) : Prop := i ≤ l.length ∧ (∀ j, j < i → (recs (l.getD j default)).2 = true) ∧ ∀ j, j + 1 < i → (recs (l.getD j default)).1.length ≠ 0
theorem k9 (l : List Str) (room : Int) (hl : l.length ≤ 400) (hs : ∀ i, (l.getD i default).length ≤ 1000000) : KOk cF 9 [lstA l, .int .i64 room] (opA l room) := by
 refine KOk.of cF_ok eF.g Try.func9 rfl (Nat.le_of_ble_eq_true rfl) fun w F => ?_
 repeat' first | refine Go.seq ?_ | refine Go.region rfl ?_ | refine Ops.nil ?_ | refine Ops.val eF rfl rfl Zw (by first | exact Z1 | exact Y36) ?_ | refine Ops.rowAt eF 0 rfl rfl Zw rfl (Hop.alloc eF rfl rfl rfl) ?_ | refine Ops.rowAt eF 1 rfl rfl Zw rfl (Hop.alloc eF rfl rfl rfl) ?_ | refine Ops.unit eF rfl Zw (Hop.store eF rfl rfl rfl rfl rfl rfl) (ArrKeep.put rfl) ?_ | refine Go.block ?_
 refine Go.change (Chg.tokCellJ 2 1 0 22 1 2 rfl (by decide) rfl rfl rfl rfl) ?_
 refine Go.toHQ (N := 3) (bs := [.row ⟨37, 2, .leaf, [.nilsl, .int .i64 0], none⟩, .row ⟨37, 2, .leaf, [.own 2 0 1, .int .i64 room], none⟩, .arr 22 1 0 []]) (L' := [(0, lstA l), (4, .ptr 0 0), (6, .ptr 1 0), (7, .int .i64 (0 : Nat))]) ?_ rfl eF.g Zt rfl rfl Zg Zl rfl rfl
 refine Go.loop (fun i : Nat => [(0, lstA l), (4, .ptr 0 0), (6, .ptr 1 0), (7, .int .i64 i)]) (fun i => hq 3 [.row ⟨37, 2, .leaf, [.nilsl, .int .i64 0], none⟩, .row ⟨37, 2, .leaf, [.own 2 (segs (l.take i)).length 1, .int .i64 room], none⟩, .arr 22 1 (segs (l.take i)).length ((segs (l.take i)).flatMap encS)]) (In9 l) (fun i => l.length - i) 0 ⟨Nat.zero_le _, fun j h => absurd h (Nat.not_lt_zero _), fun j h => absurd h (Nat.not_lt_zero _)⟩ Zt rfl (fun i hP ih => ?_)
 have hil := hP.1
 have hsl : (segs (l.take i)).length = i := by rw [segs_len, List.length_take, Nat.min_eq_left hil]
 by_cases c0 : (i : Int) < (l.length : Int)
 ·have hlt : i < l.length := by omega
  have k1 := k27 (l.getD i default) (hs i)
  unfold rdR at k1
  cases hr : (recs (l.getD i default)).2 with
  | false =>
   have hno : ¬ SegsP l := fun h => by have := h.1 i hlt; rw [hr] at this; cases this
   unfold opA
   rw [bd_no hno]
   rw [hr] at k1
   have k1 : KOk cF 27 [bysA (l.getD i default)] (.tup [.nilsl, .bool false]) := k1
   repeat' first | refine Go.seq ?_ | refine Go.region rfl ?_ | refine Ops.nil ?_ | refine Ops.val eF rfl rfl Zw Zk ?_ | refine Go.condT rfl ?_ | refine Go.condF rfl ?_ | refine Ops.val eF rfl rfl Zw (Hop.geqF rfl rfl rfl (by omega)) ?_ | refine Ops.val eF rfl rfl Zw (by first | exact Z1 | exact Z2 | exact Y24 | exact Z5 | exact Z6 | exact Y36) ?_ | refine Ops.skip rfl rfl Zn ?_ | refine Ops.call eF rfl rfl Zw rfl rfl rfl rfl (k1) rfl ?_ | refine Ops.unit eF rfl Zw (Hop.store eF rfl rfl rfl rfl rfl rfl) (ArrKeep.put rfl) ?_ | refine Go.block ?_ | refine Go.skip ?_
   all_goals first | rfl | exact Zr
  | true =>
   rw [hr] at k1
   have k1 : KOk cF 27 [bysA (l.getD i default)] (.tup [lstA (recs (l.getD i default)).1, .bool true]) := k1
   have hP' : (i = 0 ∨ (recs (l.getD (i - 1) default)).1.length ≠ 0) → In9 l (i + 1) := fun h => ⟨hlt, fun j hj => by
    by_cases e : j = i
    ·subst e; exact hr
    ·exact hP.2.1 j (by omega), fun j hj => by
    by_cases e : j + 1 = i
    ·rcases h with h | h
     ·omega
     ·rw [show i - 1 = j by omega] at h; exact h
    ·exact hP.2.2 j (by omega)⟩
   by_cases ci : i = 0
   ·have g := ih (i + 1) (hP' (.inl ci)) (by omega)
    rw [segs_succ hlt, List.length_append, List.flatMap_append] at g
    repeat' first | refine Go.seq ?_ | refine Go.region rfl ?_ | refine Ops.nil ?_ | refine Ops.val eF rfl rfl Zw Zk ?_ | refine Go.condT rfl ?_ | refine Go.condF rfl ?_ | refine Ops.val eF rfl rfl Zw (Hop.geqF rfl rfl rfl (by omega)) ?_ | refine Ops.val eF rfl rfl Zw (by first | exact Z1 | exact Z2 | exact Y14 | exact Z4 | exact Y24 | exact Z5 | exact Z6) ?_ | refine Ops.skip rfl rfl Zn ?_ | refine Ops.call eF rfl rfl Zw rfl rfl rfl rfl (k1) rfl ?_ | refine Ops.data eF rfl rfl Zw rfl (Hop.bslice eF rfl rfl rfl rfl rfl rfl rfl rfl rfl rfl rfl) rfl rfl ?_ | refine Ops.appendE eF rfl rfl Zw rfl rfl rfl rfl rfl rfl rfl rfl rfl rfl rfl rfl rfl rfl rfl rfl Zi rfl rfl rfl rfl rfl Zz (by omega) ?_ | refine Ops.unit eF rfl Zw (Hop.store eF rfl rfl rfl rfl rfl rfl) (ArrKeep.put rfl) ?_ | refine Go.block ?_ | refine Go.unblk ?_ | refine Go.skip ?_
    exact Go.toQ g rfl eF.g Zt rfl rfl Zg Zl rfl rfl
   ·have ei : ((i : Int) - 1).toNat = i - 1 := by omega
    have hat : (segs (l.take i)).getD ((i : Int) - 1).toNat default = (recs (l.getD (i - 1) default)).1 := by rw [ei]; exact segs_at (by omega) hil
    by_cases cz : (recs (l.getD (i - 1) default)).1.length = 0
    ·have hno : ¬ SegsP l := fun h => h.2 (i - 1) (by omega) cz
     have cz' : ((segs (l.take i)).getD ((i : Int) - 1).toNat default).length = 0 := by rw [hat]; exact cz
     unfold opA
     rw [bd_no hno]
     repeat' first | refine Go.seq ?_ | refine Go.region rfl ?_ | refine Ops.nil ?_ | refine Ops.val eF rfl rfl Zw Zk ?_ | refine Go.condT rfl ?_ | refine Go.condF rfl ?_ | refine Ops.val eF rfl rfl Zw (Hop.geqF rfl rfl rfl (by omega)) ?_ | refine Ops.val eF rfl rfl Zw (Hop.ldF1 (enc := encS) (l := segs (l.take i)) (i := ((i : Int) - 1).toNat) eF rfl rfl rfl rfl rfl rfl (fun _ => rfl) rfl rfl (by omega)) ?_ | refine Ops.val eF rfl rfl Zw (by first | exact Z1 | exact Z2 | exact Y15 | exact Z4 | exact Y24 | exact Y25 | exact Z5 | exact Z6 | exact Y36) ?_ | refine Ops.call eF rfl rfl Zw rfl rfl rfl rfl (k1) rfl ?_ | refine Ops.unit eF rfl Zw (Hop.store eF rfl rfl rfl rfl rfl rfl) (ArrKeep.put rfl) ?_ | refine Go.block ?_ | refine Go.skip ?_
     all_goals first | rfl | exact Zr
    ·have g := ih (i + 1) (hP' (.inr cz)) (by omega)
     have cz' : ((segs (l.take i)).getD ((i : Int) - 1).toNat default).length ≠ 0 := by rw [hat]; exact cz
     rw [segs_succ hlt, List.length_append, List.flatMap_append] at g
     repeat' first | refine Go.seq ?_ | refine Go.region rfl ?_ | refine Ops.nil ?_ | refine Ops.val eF rfl rfl Zw Zk ?_ | refine Go.condT rfl ?_ | refine Go.condF rfl ?_ | refine Ops.val eF rfl rfl Zw (Hop.geqF rfl rfl rfl (by omega)) ?_ | refine Ops.val eF rfl rfl Zw (Hop.ldF1 (enc := encS) (l := segs (l.take i)) (i := ((i : Int) - 1).toNat) eF rfl rfl rfl rfl rfl rfl (fun _ => rfl) rfl rfl (by omega)) ?_ | refine Ops.val eF rfl rfl Zw (by first | exact Z1 | exact Z2 | exact Y14 | exact Y15 | exact Z4 | exact Y24 | exact Y25 | exact Z5 | exact Z6) ?_ | refine Ops.call eF rfl rfl Zw rfl rfl rfl rfl (k1) rfl ?_ | refine Ops.data eF rfl rfl Zw rfl (Hop.bslice eF rfl rfl rfl rfl rfl rfl rfl rfl rfl rfl rfl) rfl rfl ?_ | refine Ops.appendE eF rfl rfl Zw rfl rfl rfl rfl rfl rfl rfl rfl rfl rfl rfl rfl rfl rfl rfl rfl Zi rfl rfl rfl rfl rfl Zz (by omega) ?_ | refine Ops.unit eF rfl Zw (Hop.store eF rfl rfl rfl rfl rfl rfl) (ArrKeep.put rfl) ?_ | refine Go.block ?_ | refine Go.unblk ?_ | refine Go.skip ?_
     exact Go.toQ g rfl eF.g Zt rfl rfl Zg Zl rfl rfl
 ·have ei : i = l.length := by omega
  subst ei
  have hyes : SegsP l := ⟨hP.2.1, hP.2.2⟩
  unfold opA
  rw [bd_of hyes]
  rw [List.take_length] at *
  repeat' first | refine Go.change (Chg.cellFrzJ 1 2 0 2 rfl (by decide) rfl rfl rfl Zj rfl rfl rfl) ?_ | refine Go.seq ?_ | refine Go.region rfl ?_ | refine Ops.nil ?_ | refine Ops.val eF rfl rfl Zw (by first | exact Z1 | exact Z3 | exact Z5 | exact Z6) ?_ | refine Ops.unit eF rfl Zw (Hop.store eF rfl rfl rfl rfl rfl rfl) (ArrKeep.put rfl) ?_ | refine Go.condFt rfl Za ?_ | refine Go.exit rfl ?_
  exact Zr
end Go.Px.Lr
end
