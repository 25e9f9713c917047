/- Parts of the proof in YthaagimdjfkjpaaGreatDoorXFin: DuP. -/
import Derived.Test.YthaagimdjfkjpaaGreatDoorXLb
import Derived.Test.YthaagimdjfkjpaaGreatDoorXLm
import Derived.Test.YthaagimdjfkjpaaGreatDoorXK4
set_option linter.unusedVariables false
set_option linter.unusedSimpArgs false
section
set_option maxHeartbeats 4000000
set_option maxRecDepth 20000
namespace Go.Px.Du
open Go.Proofs Go.Px.Ds Go.Px.De
attribute [local irreducible] Go.Px.KOk Go.Px.KOkW
noncomputable def r22_0 : List Oper := ((drawn (Tryz.f22.body.getD .skip))[0]?).getD []
theorem drP22_0 : chkOrdP cF r22_0 11 [0, 1, 2, 3, 4, 5, 9, 10, 6, 7, 8] = true := by kernel_rfl
noncomputable def r22_1 : List Oper := ((drawn (Tryz.f22.body.getD .skip))[1]?).getD []
theorem dg22_1 : lvChk r22_1 1023 ([(0, [0, 1, 4])] :: [[(1, [1, 4]), (2, [0, 2, 4]), (16, [0, 1, 5])], [(3, [2, 4]), (6, [0, 3, 4]), (17, [1, 5]), (18, [0, 2, 5]), (48, [0, 1])], [(7, [3, 4]), (14, [0, 4]), (19, [2, 5]), (22, [0, 3, 5]), (49, [1]), (50, [0, 2])], [(15, [4]), (23, [3, 5]), (30, [0, 5]), (51, [2]), (54, [0, 3])], [(31, [5]), (55, [3]), (62, [0, 6])], [(63, [6]), (126, [0, 7])], [(127, [7]), (254, [0])], [(255, [8])], [(511, [9])], [(1023, [])]]) = true := by kernel_rfl
theorem k22 (d : Da) : KOk cF 22 [.agg (encDa d)] (.agg (encN (vecD d (spD d)))) := by
 refine KOk.of cF_ok eF.g Tryz.func22 rfl (Nat.le_of_ble_eq_true rfl) fun w F => ?_
 obtain ⟨e, a, v, t, add, fr, to⟩ := d
 repeat' first | refine Go.seq ?_ | refine Go.region rfl ?_ | refine Ops.nil ?_ | refine Ops.boxR eF rfl rfl Zw rfl rfl rfl rfl ?_ | refine Ops.val eF rfl rfl Zw (by first | exact Z1 | exact Z4 | exact Z5) ?_ | refine Ops.rowAt eF 0 rfl rfl Zw rfl (Hop.alloc eF rfl rfl rfl) ?_
 refine Go.meet [(1, .rptr (encDa ⟨e, a, v, t, add, fr, to⟩)), (2, .ptr 0 0), (3, .int .i64 (adN add))] (hq 1 [.row ⟨61, 8, .leaf, [.int .i64 0, .int .i64 0, .int .i64 0, .str [], .str [], .nilsl, .int .i64 0, .int .i64 0], none⟩]) ?_ (fun cont => ?_)
 case refine_2 =>
  cases add with
  | true =>
   repeat' first | exact Go.toHQ cont rfl eF.g Zt rfl rfl ⟨.inr rfl, trivial⟩ Zl rfl rfl | refine Go.region rfl ?_ | refine Ops.nil ?_ | refine Ops.val eF rfl rfl Zw Z1 ?_ | refine Go.condT rfl ?_
  | false =>
   repeat' first | exact Go.toHQ cont rfl eF.g Zt rfl rfl ⟨.inr rfl, trivial⟩ Zl rfl rfl | refine Go.condF rfl ?_ | refine Go.skip ?_
 repeat' first | refine Go.seq ?_
 refine Go.drawP eF hm [n21] 11 [0, 1, 2, 3, 4, 5, 9, 10, 6, 7, 8] drP22_0 ?_
 repeat' first | refine Dr.nil ?_ | refine Dr.pure rfl rfl rfl rfl Zw (by first | exact Z1 | exact Z4 | exact Z5 | exact Y36) ?_ | refine Dr.light rfl rfl rfl rfl Zw Z5 ?_ | refine Dr.call rfl rfl rfl rfl Zw rfl rfl rfl rfl (by first | exact pans_hd (_, _) rfl rfl) ?_
 all_goals refine Go.suf rfl ?_
 refine Ops.change (Chg.weak 15 rfl (wkN 8)) ?_
 by_cases h1 : fr = -9223372036854775808
 ·by_cases h2 : to = 9223372036854775807
  ·rw [show spD ⟨e, a, v, t, add, fr, to⟩ = false by subst h1; subst h2; rfl]
   repeat' first | refine Go.seq ?_ | refine Go.region rfl ?_ | refine Ops.nil ?_ | refine Ops.val eF rfl rfl Zw Zk ?_ | refine Go.condT rfl ?_ | refine Go.condF rfl ?_ | refine Ops.val eF rfl rfl Zw (by first | exact Z1 | exact Z2 | exact Z4 | exact Z5 | exact Y36) ?_ | refine Ops.data eF rfl rfl Zw rfl (Hop.bslice eF rfl rfl rfl rfl rfl rfl rfl rfl rfl rfl rfl) rfl rfl ?_ | refine Ops.unit eF rfl Zw (Hop.store eF rfl rfl rfl rfl rfl rfl) (ArrKeep.put rfl) ?_ | refine Go.skip ?_
   exact Go.retFc [_] rfl ⟨Hop.ldPG eF rfl rfl rfl rfl rfl rfl rfl, trivial⟩ rfl rfl
  ·rw [show spD ⟨e, a, v, t, add, fr, to⟩ = true by unfold spD MaxI; simp [h2]]
   repeat' first | refine Go.seq ?_ | refine Go.region rfl ?_ | refine Ops.nil ?_ | refine Ops.bsliceOwn eF 1 (z := 8) rfl rfl Zw rfl rfl rfl rfl rfl rfl rfl rfl rfl rfl rfl rfl rfl rfl rfl Zi rfl rfl rfl rfl ?_ | refine Ops.val eF rfl rfl Zw Zk ?_ | refine Go.condT rfl ?_ | refine Go.condF rfl ?_ | refine Go.condNn rfl Za ?_ | refine Ops.val eF rfl rfl Zw (by first | exact Z1 | exact Z2 | exact Z3 | exact Z4 | exact Z5) ?_
   refine Go.toHQ (N := 2) (bs := [.row ⟨61, 8, .leaf, [.int .i64 0, .int .i64 0, .int .i64 0, .str [], .str [], .nilsl, .int .i64 0, .int .i64 0], none⟩, .arr 61 8 4 (encNds [val 5 e, val 5 a, .mk 1 v [] [] 0 0, val 2 (adN add)])]) (L' := [(1, .rptr (encDa ⟨e, a, v, t, add, fr, to⟩)), (2, .ptr 0 0), (4, .own 1 4 8)]) ?_ rfl eF.g Zt rfl rfl Zg Zl rfl rfl
   obtain ⟨cells, hc⟩ : ∃ c, c = encNds [val 5 e, val 5 a, .mk 1 v [] [] 0 0, val 2 (adN add)] := ⟨_, rfl⟩
   rw [← hc]
   refine Go.dag 1023 hm (fun D => selL [(1, .rptr (encDa ⟨e, a, v, t, add, fr, to⟩)), (2, .ptr 0 0)] D [(10, 100, 4, .own 1 6 8), (9, 100, 35, .own 1 6 8), (8, 100, 34, .rsl 2 8 (encNds [val 6 fr, val 6 to])), (7, 100, 33, .agg (encN (val 6 to))), (6, 100, 32, .int .i64 to), (5, 100, 31, .rptr [.int .i64 to]), (4, 100, 30, .agg (encN (val 6 fr))), (3, 100, 29, .int .i64 fr), (2, 100, 28, .rptr [.int .i64 fr]), (1, 9, 27, .own 1 4 8), (0, 9, 4, .own 1 4 8)]) (fun D => match bitB D 8 with | true => hq 2 [.row ⟨61, 8, .leaf, [.int .i64 0, .int .i64 0, .int .i64 0, .str [], .str [], .nilsl, .int .i64 0, .int .i64 0], none⟩, .arr 61 8 6 (cells ++ encNds [val 6 fr, val 6 to])] | false => hq 2 [.row ⟨61, 8, .leaf, [.int .i64 0, .int .i64 0, .int .i64 0, .str [], .str [], .nilsl, .int .i64 0, .int .i64 0], none⟩, .arr 61 8 4 cells]) [0, 1, 4] [[(1, [1, 4]), (2, [0, 2, 4]), (16, [0, 1, 5])], [(3, [2, 4]), (6, [0, 3, 4]), (17, [1, 5]), (18, [0, 2, 5]), (48, [0, 1])], [(7, [3, 4]), (14, [0, 4]), (19, [2, 5]), (22, [0, 3, 5]), (49, [1]), (50, [0, 2])], [(15, [4]), (23, [3, 5]), (30, [0, 5]), (51, [2]), (54, [0, 3])], [(31, [5]), (55, [3]), (62, [0, 6])], [(63, [6]), (126, [0, 7])], [(127, [7]), (254, [0])], [(255, [8])], [(511, [9])], [(1023, [])]] dg22_1 rfl (by repeat' first | exact trivial | refine ⟨rfl, ?_⟩) rfl ?_ ?_
   ·repeat' first | exact trivial | refine And.intro ?_ ?_ | refine Exists.intro _ (And.intro rfl ?_) | exact Ops.midE (by repeat' first | exact trivial | refine ⟨rfl, ?_⟩) | exact Ops.midQ eF.g rfl (by repeat' first | exact trivial | refine ⟨rfl, ?_⟩) rfl rfl (by repeat' first | exact trivial | refine And.intro ?_ ?_ | exact .inr rfl | exact .inl rfl) (by repeat' first | exact trivial | exact low_row rfl rfl | refine And.intro ?_ ?_) rfl rfl | refine Ops.val eF rfl rfl Zw (by first | exact Z1 | exact Z4 | exact Z5) ?_ | refine Ops.call eF rfl rfl Zw rfl rfl rfl rfl (k21 6 fr) rfl ?_ | refine Ops.call eF rfl rfl Zw rfl rfl rfl rfl (k21 6 to) rfl ?_ | refine Ops.data eF rfl rfl Zw rfl (Hop.bslice eF rfl rfl rfl rfl rfl rfl rfl rfl rfl rfl rfl) rfl rfl ?_ | refine Ops.appendE eF rfl rfl Zw rfl rfl rfl rfl rfl rfl rfl rfl rfl rfl rfl rfl rfl rfl rfl rfl Zi rfl rfl rfl rfl rfl Zz (by omega) ?_
   repeat' first | refine Go.seq ?_ | refine Go.region rfl ?_ | refine Ops.nil ?_ | refine Ops.frzMv eF 36 rfl rfl rfl Zw Z1 rfl Zi rfl rfl rfl rfl ?_ | refine Ops.val eF rfl rfl Zw Y36 ?_ | refine Ops.unit eF rfl Zw (Hop.store eF rfl rfl rfl rfl rfl rfl) (ArrKeep.put rfl) ?_
   subst hc
   exact Go.retFc [_] rfl ⟨Hop.ldPG eF rfl rfl rfl rfl rfl rfl rfl, trivial⟩ rfl rfl
 ·rw [show spD ⟨e, a, v, t, add, fr, to⟩ = true by unfold spD MinI; simp [h1]]
  repeat' first | refine Go.seq ?_ | refine Go.region rfl ?_ | refine Ops.nil ?_ | refine Ops.bsliceOwn eF 1 (z := 8) rfl rfl Zw rfl rfl rfl rfl rfl rfl rfl rfl rfl rfl rfl rfl rfl rfl rfl Zi rfl rfl rfl rfl ?_ | refine Ops.val eF rfl rfl Zw Zk ?_ | refine Go.condT rfl ?_ | refine Go.condF rfl ?_ | refine Ops.gNn rfl rfl Za ?_ | refine Ops.val eF rfl rfl Zw (by first | exact Z1 | exact Z2 | exact Z3 | exact Z4 | exact Z5) ?_ | refine Ops.skip rfl rfl Zn ?_
  refine Go.toHQ (N := 2) (bs := [.row ⟨61, 8, .leaf, [.int .i64 0, .int .i64 0, .int .i64 0, .str [], .str [], .nilsl, .int .i64 0, .int .i64 0], none⟩, .arr 61 8 4 (encNds [val 5 e, val 5 a, .mk 1 v [] [] 0 0, val 2 (adN add)])]) (L' := [(1, .rptr (encDa ⟨e, a, v, t, add, fr, to⟩)), (2, .ptr 0 0), (4, .own 1 4 8)]) ?_ rfl eF.g Zt rfl rfl Zg Zl rfl rfl
  obtain ⟨cells, hc⟩ : ∃ c, c = encNds [val 5 e, val 5 a, .mk 1 v [] [] 0 0, val 2 (adN add)] := ⟨_, rfl⟩
  rw [← hc]
  refine Go.dag 1023 hm (fun D => selL [(1, .rptr (encDa ⟨e, a, v, t, add, fr, to⟩)), (2, .ptr 0 0)] D [(10, 100, 4, .own 1 6 8), (9, 100, 35, .own 1 6 8), (8, 100, 34, .rsl 2 8 (encNds [val 6 fr, val 6 to])), (7, 100, 33, .agg (encN (val 6 to))), (6, 100, 32, .int .i64 to), (5, 100, 31, .rptr [.int .i64 to]), (4, 100, 30, .agg (encN (val 6 fr))), (3, 100, 29, .int .i64 fr), (2, 100, 28, .rptr [.int .i64 fr]), (1, 9, 27, .own 1 4 8), (0, 9, 4, .own 1 4 8)]) (fun D => match bitB D 8 with | true => hq 2 [.row ⟨61, 8, .leaf, [.int .i64 0, .int .i64 0, .int .i64 0, .str [], .str [], .nilsl, .int .i64 0, .int .i64 0], none⟩, .arr 61 8 6 (cells ++ encNds [val 6 fr, val 6 to])] | false => hq 2 [.row ⟨61, 8, .leaf, [.int .i64 0, .int .i64 0, .int .i64 0, .str [], .str [], .nilsl, .int .i64 0, .int .i64 0], none⟩, .arr 61 8 4 cells]) [0, 1, 4] [[(1, [1, 4]), (2, [0, 2, 4]), (16, [0, 1, 5])], [(3, [2, 4]), (6, [0, 3, 4]), (17, [1, 5]), (18, [0, 2, 5]), (48, [0, 1])], [(7, [3, 4]), (14, [0, 4]), (19, [2, 5]), (22, [0, 3, 5]), (49, [1]), (50, [0, 2])], [(15, [4]), (23, [3, 5]), (30, [0, 5]), (51, [2]), (54, [0, 3])], [(31, [5]), (55, [3]), (62, [0, 6])], [(63, [6]), (126, [0, 7])], [(127, [7]), (254, [0])], [(255, [8])], [(511, [9])], [(1023, [])]] dg22_1 rfl (by repeat' first | exact trivial | refine ⟨rfl, ?_⟩) rfl ?_ ?_
  ·repeat' first | exact trivial | refine And.intro ?_ ?_ | refine Exists.intro _ (And.intro rfl ?_) | exact Ops.midE (by repeat' first | exact trivial | refine ⟨rfl, ?_⟩) | exact Ops.midQ eF.g rfl (by repeat' first | exact trivial | refine ⟨rfl, ?_⟩) rfl rfl (by repeat' first | exact trivial | refine And.intro ?_ ?_ | exact .inr rfl | exact .inl rfl) (by repeat' first | exact trivial | exact low_row rfl rfl | refine And.intro ?_ ?_) rfl rfl | refine Ops.val eF rfl rfl Zw (by first | exact Z1 | exact Z4 | exact Z5) ?_ | refine Ops.call eF rfl rfl Zw rfl rfl rfl rfl (k21 6 fr) rfl ?_ | refine Ops.call eF rfl rfl Zw rfl rfl rfl rfl (k21 6 to) rfl ?_ | refine Ops.data eF rfl rfl Zw rfl (Hop.bslice eF rfl rfl rfl rfl rfl rfl rfl rfl rfl rfl rfl) rfl rfl ?_ | refine Ops.appendE eF rfl rfl Zw rfl rfl rfl rfl rfl rfl rfl rfl rfl rfl rfl rfl rfl rfl rfl rfl Zi rfl rfl rfl rfl rfl Zz (by omega) ?_
  repeat' first | refine Go.seq ?_ | refine Go.region rfl ?_ | refine Ops.nil ?_ | refine Ops.frzMv eF 36 rfl rfl rfl Zw Z1 rfl Zi rfl rfl rfl rfl ?_ | refine Ops.val eF rfl rfl Zw Y36 ?_ | refine Ops.unit eF rfl Zw (Hop.store eF rfl rfl rfl rfl rfl rfl) (ArrKeep.put rfl) ?_
  subst hc
  exact Go.retFc [_] rfl ⟨Hop.ldPG eF rfl rfl rfl rfl rfl rfl rfl, trivial⟩ rfl rfl
end Go.Px.Du
end
