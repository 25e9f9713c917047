/- Parts of the proof in YthaagimdjfkjpaaGreatDoorXFin: DuR. -/
import Derived.Test.YthaagimdjfkjpaaGreatDoorXLc
import Derived.Test.YthaagimdjfkjpaaGreatDoorXLh
import Derived.Test.YthaagimdjfkjpaaGreatDoorXLl
import Derived.Test.YthaagimdjfkjpaaGreatDoorXLm
import Derived.Test.YthaagimdjfkjpaaGreatDoorXK4
set_option linter.unusedVariables false
set_option linter.unusedSimpArgs false
section
set_option maxHeartbeats 4000000
set_option maxRecDepth 20000
namespace Go.Px.Du
open Go.Proofs Go.Px.Ds Go.Px.De
attribute [local irreducible] Go.Px.KOk Go.Px.KOkW
noncomputable def lineS (x : Nd) : Str := x.sho ++ [10]
theorem jn1 (b : Str) (x : Nd) : jn b [x] = x.sho := by simp [jn]
theorem ndsA1 (x : Nd) : ndsA [x] = .rsl 1 8 (encN x) := by rw [ndsA_eq]; unfold dsl; simp
theorem ndsA_cons (a : Nd) (l : List Nd) : ndsA (a :: l) = .rsl (1 + l.length) 8 (encN a ++ l.flatMap encN) := by
 rw [ndsA_eq]; unfold dsl; rw [List.flatMap_cons, List.length_cons, Nat.add_comm]
structure LnP (x : Nd) : Prop where
 ok : okN 0 [x]
 cnt : cntN [x] ≤ 5000
 len : x.sho.length ≤ 800000
theorem k30x (x : Nd) (h : LnP x) : KOk cF 30 [.rsl 1 8 (encN x)] (.tup [sA (lineS x), .int .i64 0]) := by
 have := k30 k59 [x] h.cnt h.ok (by rw [jn1]; have := h.len; omega) (by simp)
 rw [jn1, ndsA1] at this
 exact this
theorem k16 (s : Str) (l : List Nd) (hl : l.length ≤ 10000) (h : LnP (nmd s l)) : KOk cF 16 [sA s, ndsA l] (.tup [sA (lineS (nmd s l)), .int .i64 0]) := by
 have k1 := k30x (nmd s l) h
 rw [nmd_enc] at k1
 rw [ndsA_eq]
 refine KOk.of cF_ok eF.g Tryz.func16 rfl (Nat.le_of_ble_eq_true rfl) fun w F => ?_
 repeat' first | refine Go.seq ?_ | refine Go.region rfl ?_ | refine Ops.nil ?_ | refine Ops.buildZ eF 8 rfl rfl Zw (Hop.build eF rfl rfl rfl rfl rfl rfl rfl) ?_ | refine Ops.bsliceOwn eF 0 (z := 8) rfl rfl Zw rfl rfl rfl rfl rfl rfl rfl rfl rfl rfl rfl rfl rfl rfl rfl Zi rfl rfl rfl rfl ?_ | refine Ops.frzMv eF 13 rfl rfl rfl Zw Z1 rfl Zi rfl rfl rfl rfl ?_ | refine Ops.val eF rfl rfl Zw (by first | exact Z1 | exact Y36) ?_ | refine Ops.call eF rfl rfl Zw rfl rfl rfl rfl (k1) rfl ?_ | refine Ops.data eF rfl rfl Zw rfl (Hop.bslice eF rfl rfl rfl rfl rfl rfl rfl rfl rfl rfl rfl) rfl rfl ?_ | refine Ops.appendE eF rfl rfl Zw rfl rfl rfl rfl rfl rfl rfl rfl rfl rfl rfl rfl rfl rfl rfl rfl Zi rfl rfl rfl rfl rfl Zz (by omega) ?_ | refine Go.retF rfl ?_ rfl
 all_goals rfl
def nodeD (d : Da) : Nd := vecD d (spD d)
def txN (x : Tx) : Nd := nmd [116, 120] (val 1 x.t :: x.l.map nodeD)
theorem k15t (x : Tx) (hl : x.l.length ≤ 1000) (h : LnP (txN x)) : KOk cF 15 [.agg (encTx x)] (.tup [sA (lineS (txN x)), .int .i64 0]) := by
 have k1 := k16 [116, 120] (val 1 x.t :: x.l.map nodeD) (by simp; omega) h
 have k2 := k17 1 x.t
 rw [ndsA_cons, List.length_map] at k1
 refine KOk.of cF_ok eF.g Tryz.func15 rfl (Nat.le_of_ble_eq_true rfl) fun w F => ?_
 repeat' first | refine Go.seq ?_ | refine Go.region rfl ?_ | refine Ops.nil ?_ | refine Ops.boxR eF rfl rfl Zw rfl rfl rfl rfl ?_ | refine Ops.bsliceOwn eF 0 (z := 8) rfl rfl Zw rfl rfl rfl rfl rfl rfl rfl rfl rfl rfl rfl rfl rfl rfl rfl Zi rfl rfl rfl rfl ?_ | refine Ops.val eF rfl rfl Zw (by first | exact Z1 | exact Z4 | exact Z5) ?_ | refine Ops.call eF rfl rfl Zw rfl rfl rfl rfl (k2) rfl ?_ | refine Go.block ?_
 refine Go.toHQ (N := 1) (bs := [.arr 61 8 1 (encN (val 1 x.t))]) (L' := [(1, .rptr (encTx x)), (4, .own 0 1 8), (5, .int .i64 (0 : Nat))]) ?_ rfl eF.g Zt rfl rfl ⟨.inr rfl, trivial⟩ Zl rfl rfl
 refine Go.loop (fun i : Nat => [(1, .rptr (encTx x)), (4, .own 0 (1 + i) 8), (5, .int .i64 i)]) (fun i => hq 1 [.arr 61 8 (1 + i) (encN (val 1 x.t) ++ ((x.l.take i).map nodeD).flatMap encN)]) (fun i => i ≤ x.l.length) (fun i => x.l.length - i) 0 (Nat.zero_le _) Zt rfl (fun i hi ih => ?_)
 by_cases c0 : (i : Int) < (x.l.length : Int)
 ·have hlt : i < x.l.length := by omega
  have g := ih (i + 1) (by omega) (by omega)
  rw [take_succ' hlt, List.map_append, List.flatMap_append, ← Nat.add_assoc, ← List.append_assoc] at g
  simp only [List.map_cons, List.map_nil, List.flatMap_cons, List.flatMap_nil, List.append_nil] at g
  have ka := k28 (x.l.getD i default)
  have kb : KOk cF 29 [.agg (encDa (x.l.getD i default)), .bool (!(!spD (x.l.getD i default)))] (.agg (encN (nodeD (x.l.getD i default)))) := by
   rw [Bool.not_not]; exact k29v _ _
  repeat' first | refine Go.seq ?_ | refine Go.region rfl ?_ | refine Ops.nil ?_ | refine Ops.val eF rfl rfl Zw (by first | exact Z1 | exact Z2 | exact Z3 | exact Y14 | exact Z4 | exact Y24 | exact Z5 | exact Z6) ?_ | refine Ops.call eF rfl rfl Zw rfl rfl rfl rfl (ka) rfl ?_ | refine Ops.call eF rfl rfl Zw rfl rfl rfl rfl (kb) rfl ?_ | refine Ops.data eF rfl rfl Zw rfl (Hop.bslice eF rfl rfl rfl rfl rfl rfl rfl rfl rfl rfl rfl) rfl rfl ?_ | refine Ops.appendE eF rfl rfl Zw rfl rfl rfl rfl rfl rfl rfl rfl rfl rfl rfl rfl rfl rfl rfl rfl Zi rfl rfl rfl rfl rfl Zz (by omega) ?_ | refine Go.condTt rfl Za ?_ | refine Go.block ?_ | refine Go.unblk ?_ | refine Go.skip ?_
  all_goals try simp only [Int.toNat_natCast] at *
  exact Go.toQ g rfl eF.g Zt rfl rfl ⟨.inr rfl, trivial⟩ Zl rfl rfl
 ·have ei : i = x.l.length := by omega
  subst ei
  rw [List.take_length] at *
  repeat' first | refine Go.seq ?_ | refine Go.region rfl ?_ | refine Ops.nil ?_ | refine Ops.frzMv eF 35 rfl rfl rfl Zw Z1 rfl Zi rfl rfl rfl rfl ?_ | refine Ops.val eF rfl rfl Zw (by first | exact Z1 | exact Z3 | exact Z4 | exact Z5 | exact Z6) ?_ | refine Ops.call eF rfl rfl Zw rfl rfl rfl rfl (k1) rfl ?_ | refine Go.condFt rfl Za ?_ | refine Go.exit rfl ?_ | refine Go.retF rfl ?_ rfl
  all_goals rfl
def lastT (l : List Tx) : Int := if l.length = 0 then 0 else (l.getD (l.length - 1) default).t
def endN (l : List Tx) (n : Int) : Nd := nmd [101, 110, 100] [val 1 (lastT l), val 1 n]
theorem lastT_at {l : List Tx} (h : l.length ≠ 0) : (l.getD ((l.length : Int) - 1).toNat default).t = lastT l := by
 unfold lastT; rw [if_neg h, show ((l.length : Int) - 1).toNat = l.length - 1 by omega]
theorem k18 (l : List Tx) (n : Int) (hl : l.length ≤ 100000) : KOk cF 18 [.agg [txsA l, .int .i64 n]] (.int .i64 (lastT l)) := by
 refine KOk.of cF_ok eF.g Tryz.func18 rfl (Nat.le_of_ble_eq_true rfl) fun w F => ?_
 by_cases c : (l.length : Int) = 0
 ·rw [show lastT l = 0 from if_pos (by omega)]
  repeat' first | refine Go.seq ?_ | refine Go.region rfl ?_ | refine Ops.nil ?_ | refine Ops.boxR eF rfl rfl Zw rfl rfl rfl rfl ?_ | refine Ops.val eF rfl rfl Zw Zk ?_ | refine Go.condT rfl ?_ | refine Go.condF rfl ?_ | refine Ops.val eF rfl rfl Zw (by first | exact Z1 | exact Z4 | exact Z5 | exact Z6) ?_ | refine Go.retF rfl ?_ rfl
  all_goals rfl
 ·rw [← lastT_at (show l.length ≠ 0 by omega)]
  repeat' first | refine Go.seq ?_ | refine Go.region rfl ?_ | refine Ops.nil ?_ | refine Ops.boxR eF rfl rfl Zw rfl rfl rfl rfl ?_ | refine Ops.val eF rfl rfl Zw Zk ?_ | refine Go.condT rfl ?_ | refine Go.condF rfl ?_ | refine Ops.val eF rfl rfl Zw (by first | exact Z1 | exact Y15 | exact Z4 | exact Y24 | exact Z5 | exact Z6) ?_ | refine Go.skip ?_ | refine Go.retF rfl ?_ rfl
  all_goals rfl
theorem k25 (l : List Tx) (n : Int) (hl : l.length ≤ 100000) : KOk cF 25 [.agg [txsA l, .int .i64 n]] (.int .i64 (lastT l)) := by
 refine KOk.of cF_ok eF.g Tryz.func25 rfl (Nat.le_of_ble_eq_true rfl) fun w F => ?_
 by_cases c : (l.length : Int) = 0
 ·rw [show lastT l = 0 from if_pos (by omega)]
  repeat' first | refine Go.seq ?_ | refine Go.region rfl ?_ | refine Ops.nil ?_ | refine Ops.boxR eF rfl rfl Zw rfl rfl rfl rfl ?_ | refine Ops.val eF rfl rfl Zw Zk ?_ | refine Go.condT rfl ?_ | refine Go.condF rfl ?_ | refine Ops.val eF rfl rfl Zw (by first | exact Z1 | exact Z4 | exact Z5 | exact Z6) ?_ | refine Go.retF rfl ?_ rfl
  all_goals rfl
 ·rw [← lastT_at (show l.length ≠ 0 by omega)]
  repeat' first | refine Go.seq ?_ | refine Go.region rfl ?_ | refine Ops.nil ?_ | refine Ops.boxR eF rfl rfl Zw rfl rfl rfl rfl ?_ | refine Ops.val eF rfl rfl Zw Zk ?_ | refine Go.condT rfl ?_ | refine Go.condF rfl ?_ | refine Ops.val eF rfl rfl Zw (by first | exact Z1 | exact Y15 | exact Z4 | exact Y24 | exact Z5 | exact Z6) ?_ | refine Go.skip ?_ | refine Go.retF rfl ?_ rfl
  all_goals rfl
end Go.Px.Du
end
