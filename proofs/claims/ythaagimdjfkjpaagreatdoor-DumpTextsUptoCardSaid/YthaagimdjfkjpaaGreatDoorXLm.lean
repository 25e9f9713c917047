/- Parts of the proof in YthaagimdjfkjpaaGreatDoorXFin: DuO, DuQ. -/
import Derived.Test.YthaagimdjfkjpaaGreatDoorXLb
import Derived.Test.YthaagimdjfkjpaaGreatDoorXLh
import Derived.Test.YthaagimdjfkjpaaGreatDoorXK4
set_option linter.unusedVariables false
set_option linter.unusedSimpArgs false
section
set_option maxHeartbeats 4000000
set_option maxRecDepth 20000
namespace Go.Px.Du
open Go.Proofs Go.Px.Ds Go.Px.De
attribute [local irreducible] Go.Px.KOk Go.Px.KOkW
def v0 : Va := ⟨0, 0, []⟩
def val (k n : Int) : Nd := .mk 1 ⟨k, n, []⟩ [] [] 0 0
def nmN (s : Str) : Nd := .mk 2 v0 s [] 0 0
def nmd (s : Str) (l : List Nd) : Nd := .mk 3 v0 [] (nmN s :: l) 0 0
def adN (b : Bool) : Int := bif b then 1 else 0
def vecD (d : Da) (sp : Bool) : Nd := .mk 4 v0 [] ([val 5 d.e, val 5 d.a, .mk 1 d.v [] [] 0 0, val 2 (adN d.add)] ++ bif sp then [val 6 d.fr, val 6 d.to] else []) 0 0
def MinI : Int := -9223372036854775808
def MaxI : Int := 9223372036854775807
def spD (d : Da) : Bool := !(decide (d.fr = MinI) && decide (d.to = MaxI))
theorem k21 (k n : Int) : KOk cF 21 [.int .i64 k, .int .i64 n] (.agg (encN (val k n))) := by
 refine KOk.of cF_ok eF.g Tryz.func21 rfl (Nat.le_of_ble_eq_true rfl) fun w F => ?_
 repeat' first | refine Go.seq ?_ | refine Go.region rfl ?_ | refine Ops.nil ?_ | refine Ops.buildZ eF 8 rfl rfl Zw (Hop.build eF rfl rfl rfl rfl rfl rfl rfl) ?_ | refine Ops.val eF rfl rfl Zw (by first | exact Z1 | exact Y36) ?_ | refine Ops.rowAt eF 0 rfl rfl Zw rfl (Hop.alloc eF rfl rfl rfl) ?_ | refine Ops.unit eF rfl Zw (Hop.store eF rfl rfl rfl rfl rfl rfl) (ArrKeep.put rfl) ?_
 exact Go.retFc [_] rfl ⟨Hop.ldPG eF rfl rfl rfl rfl rfl rfl rfl, trivial⟩ rfl rfl
theorem k17 (k n : Int) : KOk cF 17 [.int .i64 k, .int .i64 n] (.agg (encN (val k n))) := by
 refine KOk.of cF_ok eF.g Tryz.func17 rfl (Nat.le_of_ble_eq_true rfl) fun w F => ?_
 repeat' first | refine Go.seq ?_ | refine Go.region rfl ?_ | refine Ops.nil ?_ | refine Ops.buildZ eF 8 rfl rfl Zw (Hop.build eF rfl rfl rfl rfl rfl rfl rfl) ?_ | refine Ops.val eF rfl rfl Zw (by first | exact Z1 | exact Y36) ?_ | refine Ops.rowAt eF 0 rfl rfl Zw rfl (Hop.alloc eF rfl rfl rfl) ?_ | refine Ops.unit eF rfl Zw (Hop.store eF rfl rfl rfl rfl rfl rfl) (ArrKeep.put rfl) ?_
 exact Go.retFc [_] rfl ⟨Hop.ldPG eF rfl rfl rfl rfl rfl rfl rfl, trivial⟩ rfl rfl
theorem two_eq {a b u v : Int} (h : [AV.int .i64 a, AV.int .i64 b] = [AV.int .i64 u, AV.int .i64 v]) : a = u ∧ b = v := by
 have h := pair_eq h; exact ⟨int_eq h.1, int_eq h.2⟩
noncomputable def n21 : Ent cF := ⟨21, Int × Int, fun p => [.int .i64 p.1, .int .i64 p.2], fun p => .agg (encN (val p.1 p.2)), fun p => k21 _ _, fun _ => rfl, fun a b h => by
 have h := two_eq h; rw [h.1, h.2]⟩
noncomputable def n17 : Ent cF := ⟨17, Int × Int, fun p => [.int .i64 p.1, .int .i64 p.2], fun p => .agg (encN (val p.1 p.2)), fun p => k17 _ _, fun _ => rfl, fun a b h => by
 have h := two_eq h; rw [h.1, h.2]⟩
theorem nmd_enc (s : Str) (l : List Nd) : encN (nmd s l) = [.int .i64 3, .int .i64 0, .int .i64 0, .str [], .str [], .rsl (1 + l.length) 8 (encN (nmN s) ++ l.flatMap encN), .int .i64 0, .int .i64 0] := by
 have e : ndsA (nmN s :: l) = .rsl (1 + l.length) 8 (encN (nmN s) ++ l.flatMap encN) := by
  rw [ndsA_eq]; unfold dsl; rw [List.flatMap_cons, List.length_cons, Nat.add_comm]
 show [AV.int .i64 3, AV.int .i64 0, AV.int .i64 0, AV.str [], AV.str [], ndsA (nmN s :: l), AV.int .i64 0, AV.int .i64 0] = _
 rw [e]
theorem k24 (s : Str) (l : List Nd) (hl : l.length ≤ 10000) : KOk cF 24 [sA s, ndsA l] (.agg (encN (nmd s l))) := by
 rw [ndsA_eq, nmd_enc]
 refine KOk.of cF_ok eF.g Tryz.func24 rfl (Nat.le_of_ble_eq_true rfl) fun w F => ?_
 repeat' first | refine Go.seq ?_ | refine Go.region rfl ?_ | refine Ops.nil ?_ | refine Ops.buildZ eF 8 rfl rfl Zw (Hop.build eF rfl rfl rfl rfl rfl rfl rfl) ?_ | refine Ops.bsliceOwn eF 1 (z := 8) rfl rfl Zw rfl rfl rfl rfl rfl rfl rfl rfl rfl rfl rfl rfl rfl rfl rfl Zi rfl rfl rfl rfl ?_ | refine Ops.change (Chg.frz 9 rfl rfl Zi rfl rfl (fun q => by cases q)) ?_ | refine Ops.val eF rfl rfl Zw (by first | exact Z1 | exact Y36) ?_ | refine Ops.appendE eF rfl rfl Zw rfl rfl rfl rfl rfl rfl rfl rfl rfl rfl rfl rfl rfl rfl rfl rfl Zi rfl rfl rfl rfl rfl Zz (by omega) ?_ | refine Ops.rowAt eF 0 rfl rfl Zw rfl (Hop.alloc eF rfl rfl rfl) ?_ | refine Ops.unit eF rfl Zw (Hop.store eF rfl rfl rfl rfl rfl rfl) (ArrKeep.put rfl) ?_
 exact Go.retFc [_] rfl ⟨Hop.ldPG eF rfl rfl rfl rfl rfl rfl rfl, trivial⟩ rfl rfl
theorem k28 (d : Da) : KOk cF 28 [.agg (encDa d)] (.bool (!spD d)) := by
 refine KOk.of cF_ok eF.g Tryz.func28 rfl (Nat.le_of_ble_eq_true rfl) fun w F => ?_
 obtain ⟨e, a, v, t, add, fr, to⟩ := d
 unfold spD MinI MaxI
 by_cases h1 : fr = -9223372036854775808
 ·by_cases h2 : to = 9223372036854775807
  ·simp only [h1, h2, decide_true, Bool.and_self, Bool.not_true, Bool.not_false]
   repeat' first | refine Go.seq ?_ | refine Go.region rfl ?_ | refine Ops.nil ?_ | refine Ops.val eF rfl rfl Zw Zk ?_ | refine Go.condT rfl ?_ | refine Go.condF rfl ?_ | refine Ops.val eF rfl rfl Zw (by first | exact Z1 | exact Z2 | exact Z4 | exact Z5) ?_ | refine Ops.rowAt eF 0 rfl rfl Zw rfl (Hop.boxC rfl rfl rfl) ?_ | refine Go.retF rfl ?_ rfl
   all_goals rfl
  ·simp only [h1, h2, decide_true, decide_false, Bool.and_false, Bool.not_false, Bool.not_true]
   repeat' first | refine Go.seq ?_ | refine Go.region rfl ?_ | refine Ops.nil ?_ | refine Ops.val eF rfl rfl Zw Zk ?_ | refine Go.condT rfl ?_ | refine Go.condF rfl ?_ | refine Ops.val eF rfl rfl Zw (by first | exact Z1 | exact Z2 | exact Z4 | exact Z5) ?_ | refine Ops.rowAt eF 0 rfl rfl Zw rfl (Hop.boxC rfl rfl rfl) ?_ | refine Go.retF rfl ?_ rfl
   all_goals rfl
 ·simp only [h1, decide_false, Bool.false_and, Bool.not_false, Bool.not_true]
  repeat' first | refine Go.seq ?_ | refine Go.region rfl ?_ | refine Ops.nil ?_ | refine Ops.val eF rfl rfl Zw Zk ?_ | refine Go.condT rfl ?_ | refine Go.condF rfl ?_ | refine Ops.val eF rfl rfl Zw (by first | exact Z1 | exact Z2 | exact Z4 | exact Z5) ?_ | refine Ops.skip rfl rfl Zn ?_ | refine Ops.rowAt eF 0 rfl rfl Zw rfl (Hop.boxC rfl rfl rfl) ?_ | refine Go.retF rfl ?_ rfl
  all_goals rfl
end Go.Px.Du
end
section
set_option maxHeartbeats 4000000
set_option maxRecDepth 20000
namespace Go.Px.Du
open Go.Proofs Go.Px.Ds Go.Px.De
attribute [local irreducible] Go.Px.KOk Go.Px.KOkW
noncomputable def r29_0 : List Oper := ((drawn (Tryz.f29.body.getD .skip))[0]?).getD []
theorem drP29_0 : chkOrdP cF r29_0 11 [0, 1, 2, 3, 4, 5, 9, 10, 6, 7, 8] = true := by kernel_rfl
noncomputable def r29_1 : List Oper := ((drawn (Tryz.f29.body.getD .skip))[1]?).getD []
theorem dg29_1 : lvChk r29_1 1023 ([(0, [0, 1, 4])] :: [[(1, [1, 4]), (2, [0, 2, 4]), (16, [0, 1, 5])], [(3, [2, 4]), (6, [0, 3, 4]), (17, [1, 5]), (18, [0, 2, 5]), (48, [0, 1])], [(7, [3, 4]), (14, [0, 4]), (19, [2, 5]), (22, [0, 3, 5]), (49, [1]), (50, [0, 2])], [(15, [4]), (23, [3, 5]), (30, [0, 5]), (51, [2]), (54, [0, 3])], [(31, [5]), (55, [3]), (62, [0, 6])], [(63, [6]), (126, [0, 7])], [(127, [7]), (254, [0])], [(255, [8])], [(511, [9])], [(1023, [])]]) = true := by kernel_rfl
theorem k29v (d : Da) (sp : Bool) : KOk cF 29 [.agg (encDa d), .bool sp] (.agg (encN (vecD d sp))) := by
 refine KOk.of cF_ok eF.g Tryz.func29 rfl (Nat.le_of_ble_eq_true rfl) fun w F => ?_
 obtain ⟨e, a, v, t, add, fr, to⟩ := d
 repeat' first | refine Go.seq ?_ | refine Go.region rfl ?_ | refine Ops.nil ?_ | refine Ops.boxR eF rfl rfl Zw rfl rfl rfl rfl ?_ | refine Ops.val eF rfl rfl Zw (by first | exact Z1 | exact Z4 | exact Z5) ?_ | refine Ops.rowAt eF 0 rfl rfl Zw rfl (Hop.alloc eF rfl rfl rfl) ?_
 refine Go.meet [(2, .rptr (encDa ⟨e, a, v, t, add, fr, to⟩)), (4, .ptr 0 0), (5, .int .i64 (adN add)), (1, .bool sp)] (hq 1 [.row ⟨61, 8, .leaf, [.int .i64 0, .int .i64 0, .int .i64 0, .str [], .str [], .nilsl, .int .i64 0, .int .i64 0], none⟩]) ?_ (fun cont => ?_)
 case refine_2 =>
  cases add with
  | true =>
   repeat' first | exact Go.toHQ cont rfl eF.g Zt rfl rfl ⟨.inr rfl, trivial⟩ Zl rfl rfl | refine Go.region rfl ?_ | refine Ops.nil ?_ | refine Ops.val eF rfl rfl Zw Z1 ?_ | refine Go.condT rfl ?_
  | false =>
   repeat' first | exact Go.toHQ cont rfl eF.g Zt rfl rfl ⟨.inr rfl, trivial⟩ Zl rfl rfl | refine Go.condF rfl ?_ | refine Go.skip ?_
 repeat' first | refine Go.seq ?_
 refine Go.drawP eF hm [n17] 11 [0, 1, 2, 3, 4, 5, 9, 10, 6, 7, 8] drP29_0 ?_
 repeat' first | refine Dr.nil ?_ | refine Dr.pure rfl rfl rfl rfl Zw (by first | exact Z1 | exact Z4 | exact Z5 | exact Y36) ?_ | refine Dr.light rfl rfl rfl rfl Zw Z5 ?_ | refine Dr.call rfl rfl rfl rfl Zw rfl rfl rfl rfl (by first | exact pans_hd (_, _) rfl rfl) ?_
 all_goals refine Go.suf rfl ?_
 refine Ops.change (Chg.weak 17 rfl (wkN 8)) ?_
 cases sp with
 | false =>
  repeat' first | refine Go.seq ?_ | refine Go.region rfl ?_ | refine Ops.nil ?_ | refine Ops.val eF rfl rfl Zw Zk ?_ | refine Go.condT rfl ?_ | refine Go.condF rfl ?_ | refine Ops.val eF rfl rfl Zw (by first | exact Z1 | exact Y36) ?_ | refine Ops.data eF rfl rfl Zw rfl (Hop.bslice eF rfl rfl rfl rfl rfl rfl rfl rfl rfl rfl rfl) rfl rfl ?_ | refine Ops.unit eF rfl Zw (Hop.store eF rfl rfl rfl rfl rfl rfl) (ArrKeep.put rfl) ?_ | refine Go.skip ?_
  exact Go.retFc [_] rfl ⟨Hop.ldPG eF rfl rfl rfl rfl rfl rfl rfl, trivial⟩ rfl rfl
 | true =>
  repeat' first | refine Go.seq ?_ | refine Go.region rfl ?_ | refine Ops.nil ?_ | refine Ops.bsliceOwn eF 1 (z := 8) rfl rfl Zw rfl rfl rfl rfl rfl rfl rfl rfl rfl rfl rfl rfl rfl rfl rfl Zi rfl rfl rfl rfl ?_ | refine Ops.val eF rfl rfl Zw Zk ?_ | refine Go.condT rfl ?_ | refine Go.condF rfl ?_ | refine Ops.val eF rfl rfl Zw Z1 ?_
  refine Go.toHQ (N := 2) (bs := [.row ⟨61, 8, .leaf, [.int .i64 0, .int .i64 0, .int .i64 0, .str [], .str [], .nilsl, .int .i64 0, .int .i64 0], none⟩, .arr 61 8 4 (encNds [val 5 e, val 5 a, .mk 1 v [] [] 0 0, val 2 (adN add)])]) (L' := [(2, .rptr (encDa ⟨e, a, v, t, add, fr, to⟩)), (4, .ptr 0 0), (6, .own 1 4 8)]) ?_ rfl eF.g Zt rfl rfl Zg Zl rfl rfl
  obtain ⟨cells, hc⟩ : ∃ c, c = encNds [val 5 e, val 5 a, .mk 1 v [] [] 0 0, val 2 (adN add)] := ⟨_, rfl⟩
  rw [← hc]
  refine Go.dag 1023 hm (fun D => selL [(2, .rptr (encDa ⟨e, a, v, t, add, fr, to⟩)), (4, .ptr 0 0)] D [(10, 100, 6, .own 1 6 8), (9, 100, 30, .own 1 6 8), (8, 100, 29, .rsl 2 8 (encNds [val 6 fr, val 6 to])), (7, 100, 28, .agg (encN (val 6 to))), (6, 100, 27, .int .i64 to), (5, 100, 26, .rptr [.int .i64 to]), (4, 100, 25, .agg (encN (val 6 fr))), (3, 100, 24, .int .i64 fr), (2, 100, 23, .rptr [.int .i64 fr]), (1, 9, 22, .own 1 4 8), (0, 9, 6, .own 1 4 8)]) (fun D => match bitB D 8 with | true => hq 2 [.row ⟨61, 8, .leaf, [.int .i64 0, .int .i64 0, .int .i64 0, .str [], .str [], .nilsl, .int .i64 0, .int .i64 0], none⟩, .arr 61 8 6 (cells ++ encNds [val 6 fr, val 6 to])] | false => hq 2 [.row ⟨61, 8, .leaf, [.int .i64 0, .int .i64 0, .int .i64 0, .str [], .str [], .nilsl, .int .i64 0, .int .i64 0], none⟩, .arr 61 8 4 cells]) [0, 1, 4] [[(1, [1, 4]), (2, [0, 2, 4]), (16, [0, 1, 5])], [(3, [2, 4]), (6, [0, 3, 4]), (17, [1, 5]), (18, [0, 2, 5]), (48, [0, 1])], [(7, [3, 4]), (14, [0, 4]), (19, [2, 5]), (22, [0, 3, 5]), (49, [1]), (50, [0, 2])], [(15, [4]), (23, [3, 5]), (30, [0, 5]), (51, [2]), (54, [0, 3])], [(31, [5]), (55, [3]), (62, [0, 6])], [(63, [6]), (126, [0, 7])], [(127, [7]), (254, [0])], [(255, [8])], [(511, [9])], [(1023, [])]] dg29_1 rfl (by repeat' first | exact trivial | refine ⟨rfl, ?_⟩) rfl ?_ ?_
  ·repeat' first | exact trivial | refine And.intro ?_ ?_ | refine Exists.intro _ (And.intro rfl ?_) | exact Ops.midE (by repeat' first | exact trivial | refine ⟨rfl, ?_⟩) | exact Ops.midQ eF.g rfl (by repeat' first | exact trivial | refine ⟨rfl, ?_⟩) rfl rfl (by repeat' first | exact trivial | refine And.intro ?_ ?_ | exact .inr rfl | exact .inl rfl) (by repeat' first | exact trivial | exact low_row rfl rfl | refine And.intro ?_ ?_) rfl rfl | refine Ops.val eF rfl rfl Zw (by first | exact Z1 | exact Z4 | exact Z5) ?_ | refine Ops.call eF rfl rfl Zw rfl rfl rfl rfl (k17 6 fr) rfl ?_ | refine Ops.call eF rfl rfl Zw rfl rfl rfl rfl (k17 6 to) rfl ?_ | refine Ops.data eF rfl rfl Zw rfl (Hop.bslice eF rfl rfl rfl rfl rfl rfl rfl rfl rfl rfl rfl) rfl rfl ?_ | refine Ops.appendE eF rfl rfl Zw rfl rfl rfl rfl rfl rfl rfl rfl rfl rfl rfl rfl rfl rfl rfl rfl Zi rfl rfl rfl rfl rfl Zz (by omega) ?_
  repeat' first | refine Go.seq ?_ | refine Go.region rfl ?_ | refine Ops.nil ?_ | refine Ops.frzMv eF 31 rfl rfl rfl Zw Z1 rfl Zi rfl rfl rfl rfl ?_ | refine Ops.val eF rfl rfl Zw Y36 ?_ | refine Ops.unit eF rfl Zw (Hop.store eF rfl rfl rfl rfl rfl rfl) (ArrKeep.put rfl) ?_
  subst hc
  exact Go.retFc [_] rfl ⟨Hop.ldPG eF rfl rfl rfl rfl rfl rfl rfl, trivial⟩ rfl rfl
end Go.Px.Du
end
