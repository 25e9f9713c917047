/- Parts of the proof in YthaagimdjfkjpaaGreatDoorXFin: DuAb. -/
import Derived.Test.YthaagimdjfkjpaaGreatDoorXLq
import Derived.Test.YthaagimdjfkjpaaGreatDoorXLr
import Derived.Test.YthaagimdjfkjpaaGreatDoorXLt
import Derived.Test.YthaagimdjfkjpaaGreatDoorXK4
set_option linter.unusedVariables false
set_option linter.unusedSimpArgs false
section
set_option maxHeartbeats 4000000
set_option maxRecDepth 20000
namespace Go.Px.Du
open Go.Proofs Go.Px.Ds Go.Px.De
attribute [local irreducible] Go.Px.KOk Go.Px.KOkW
theorem _root_.Go.Px.Hop.eqST {X : Cx} {o : Oper} {L : List (Nat × AV)} {h : Heap} {t u : Nat} {x y : Operand} {a b : List UInt8} (ho : o.op = .binOp .eql t x y u) (hx : evL L x = some (sA a)) (hy : evL L y = some (sA b)) (hab : a = b) : Hop X L h o (.bool true) h := by
 have := Hop.eqS (X := X) (h := h) ho hx hy; rwa [bd_of hab] at this
theorem k8c {W : World} (l : List Tx) (n : Int) (s : Str) (e : Int) (k1 : KOkW cF W 5 [.agg (dmA l n)] (.tup [sA s, .int .i64 e])) : KOkW cF W 8 [.agg (dmA l n)] (.int .i64 e) := by
 refine KOkW.of W cF_ok eF.g Tryz.func8 rfl (Nat.le_of_ble_eq_true rfl) fun w F hE => ?_
 have lw : LW W ⟨cF, w, F, fun _ => False, none, none, [], [], []⟩ := LW.none hE
 repeat' first | refine Go.seq ?_ | refine Go.region rfl ?_ | refine Ops.nil ?_ | refine Ops.boxR eF rfl rfl Zw rfl rfl rfl rfl ?_ | refine Ops.callX eF lw rfl rfl Zw rfl rfl rfl rfl k1 rfl ?_ | refine Ops.val eF rfl rfl Zw (by first | exact Z1 | exact Z5) ?_ | refine Go.retF rfl ?_ rfl
 all_goals rfl
theorem k3 {W : World} (hT : TabW W) (l : List Tx) (n : Int) (hl : l.length ≤ 10000000) (hd : ∀ i, sumD (l.getD i default).l ≤ 1000000000) (hn : ∀ i, (l.getD i default).l.length ≤ 10000000) (hI : ∀ x ∈ l, ∀ d ∈ x.l, DaI d) : KOkW cF W 3 [.agg (dmA l n)] (.bool true) := by
 have k1 := k4 l n hl hd hn
 refine KOkW.of W cF_ok eF.g Tryz.func3 rfl (Nat.le_of_ble_eq_true rfl) fun w F hE => ?_
 have lw : LW W ⟨cF, w, F, fun _ => False, none, none, [], [], []⟩ := LW.none hE
 by_cases hG : GreatT l
 ·rw [bd_of hG] at k1
  repeat' first | refine Go.seq ?_ | refine Go.region rfl ?_ | refine Ops.nil ?_ | refine Ops.boxR eF rfl rfl Zw rfl rfl rfl rfl ?_ | refine Ops.val eF rfl rfl Zw (by first | exact Z1 | exact Z5) ?_ | refine Ops.call eF rfl rfl Zw rfl rfl rfl rfl (k1) rfl ?_ | refine Go.condT rfl ?_ | refine Go.retF rfl ?_ rfl
  all_goals rfl
 ·rw [bd_no hG] at k1
  obtain ⟨s1, s2, s3, s4, s5⟩ := small_of hG
  have h2 : ∀ i, (l.getD i default).l.length ≤ 1000000 := fun i => by have := s2 i; omega
  have h3 : ∀ i k, ((l.getD i default).l.getD k default).v.s.length ≤ 100000 := fun i k => by have := s3 i k; omega
  have ka := k5 hT l n (by omega) h2 h3 (lnsP_of hG hI)
  have kb := k7 l n (by omega)
  have kc := k6 l n (by omega) h2 h3 (lnsP_of hG hI)
  generalize txsS l ++ lineS (endN l n) = s at *
  by_cases hm_ : DmP l n
  ·rw [bd_of hm_] at ka kc
   have ka : KOkW cF W 5 [.agg (dmA l n)] (.tup [sA s, .int .i64 0]) := ka
   have kc : KOk cF 6 [.agg (dmA l n)] (.tup [sA s, .int .i64 0]) := kc
   have kd := k8c l n s 0 ka
   repeat' first | refine Go.seq ?_ | refine Go.region rfl ?_ | refine Ops.nil ?_ | refine Ops.boxR eF rfl rfl Zw rfl rfl rfl rfl ?_ | refine Ops.callX eF lw rfl rfl Zw rfl rfl rfl rfl ka rfl ?_ | refine Ops.callX eF lw rfl rfl Zw rfl rfl rfl rfl kd rfl ?_ | refine Ops.val eF rfl rfl Zw (Hop.eqST rfl rfl rfl rfl) ?_ | refine Ops.val eF rfl rfl Zw Zk ?_ | refine Go.condT rfl ?_ | refine Go.condF rfl ?_ | refine Ops.val eF rfl rfl Zw (by first | exact Z1 | exact Z2 | exact Z5) ?_ | refine Ops.call eF rfl rfl Zw rfl rfl rfl rfl (k1) rfl ?_ | refine Ops.call eF rfl rfl Zw rfl rfl rfl rfl (kb) rfl ?_ | refine Ops.call eF rfl rfl Zw rfl rfl rfl rfl (kc) rfl ?_ | refine Go.skip ?_ | refine Go.retF rfl ?_ rfl
   all_goals rfl
  ·rw [bd_no hm_] at ka kc
   have ka : KOkW cF W 5 [.agg (dmA l n)] (.tup [sA [], .int .i64 280]) := ka
   have kc : KOk cF 6 [.agg (dmA l n)] (.tup [sA [], .int .i64 280]) := kc
   have kd := k8c l n [] 280 ka
   repeat' first | refine Go.seq ?_ | refine Go.region rfl ?_ | refine Ops.nil ?_ | refine Ops.boxR eF rfl rfl Zw rfl rfl rfl rfl ?_ | refine Ops.callX eF lw rfl rfl Zw rfl rfl rfl rfl ka rfl ?_ | refine Ops.callX eF lw rfl rfl Zw rfl rfl rfl rfl kd rfl ?_ | refine Ops.val eF rfl rfl Zw (Hop.eqST rfl rfl rfl rfl) ?_ | refine Ops.val eF rfl rfl Zw Zk ?_ | refine Go.condT rfl ?_ | refine Go.condF rfl ?_ | refine Ops.val eF rfl rfl Zw (by first | exact Z1 | exact Z2 | exact Z5) ?_ | refine Ops.call eF rfl rfl Zw rfl rfl rfl rfl (k1) rfl ?_ | refine Ops.call eF rfl rfl Zw rfl rfl rfl rfl (kb) rfl ?_ | refine Ops.call eF rfl rfl Zw rfl rfl rfl rfl (kc) rfl ?_ | refine Go.skip ?_ | refine Go.retF rfl ?_ rfl
   all_goals rfl
end Go.Px.Du
end
