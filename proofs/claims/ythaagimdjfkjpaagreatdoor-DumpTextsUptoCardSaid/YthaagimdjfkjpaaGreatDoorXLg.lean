/- Parts of the proof in YthaagimdjfkjpaaGreatDoorXFin: DuG, DuH. -/
import Derived.Test.YthaagimdjfkjpaaGreatDoorXLa
import Derived.Test.YthaagimdjfkjpaaGreatDoorXLe
import Derived.Test.YthaagimdjfkjpaaGreatDoorXLf
import Derived.Test.YthaagimdjfkjpaaGreatDoorXK4
import Derived.Lib.ItoaNum
set_option linter.unusedVariables false
set_option linter.unusedSimpArgs false
section
set_option maxHeartbeats 4000000
set_option maxRecDepth 20000
namespace Go.Px.Du
open Go.Proofs Go.Px.Ds Go.Px.De
attribute [local irreducible] Go.Px.KOk
def dgs (n k : Nat) : Str := (List.range k).map fun t => Lib.dg n (k - 1 - t)
theorem dgs_succ (n k : Nat) : dgs n (k + 1) = Lib.dg n k :: dgs n k := by
 unfold dgs
 rw [List.range_succ_eq_map, List.map_cons, List.map_map]
 simp only [Nat.add_sub_cancel, Nat.sub_zero, List.cons.injEq, true_and]
 apply List.map_congr_left
 intro t _
 show Lib.dg n (k - (t + 1)) = _
 rw [show k - (t + 1) = k - 1 - t by omega]
theorem dgs_all (n : Nat) : dgs n (Lib.nDigits n) = Lib.decDigits n := (Lib.decDigits_eq n).symm
theorem dgs_len (n k : Nat) : (dgs n k).length = k := by unfold dgs; simp
theorem nD_19 {n : Nat} (h : n < 9223372036854775808) : Lib.nDigits n ≤ 19 := by
 refine Classical.byContradiction fun q => ?_
 have h1 := Lib.nDigits_pos n
 have h0 : n ≠ 0 := fun e => by subst e; rw [Lib.nDigits_small (by decide)] at q; omega
 have : 10 ^ 19 ≤ n := by
  have key : ∀ k m, k + 2 ≤ Lib.nDigits m → 10 ^ (k + 1) ≤ m := by
   intro k
   induction k with
   | zero =>
    intro m hm
    by_cases hs : m < 10
    ·rw [Lib.nDigits_small hs] at hm; omega
    ·omega
   | succ k ih =>
    intro m hm
    by_cases hs : m < 10
    ·rw [Lib.nDigits_small hs] at hm; omega
    ·rw [Lib.nDigits_big hs] at hm
     have := ih (m / 10) (by omega)
     rw [Nat.pow_succ]
     omega
  exact key 18 n (by omega)
 have e : (10 : Nat) ^ 19 = 10000000000000000000 := by decide
 omega
theorem left0 : ∀ (k n : Nat), n / 10 ^ k = 0 → 1 ≤ k → Lib.nDigits n ≤ k := by
 intro k n h hk
 have hlt : n < 10 ^ k := (Nat.div_eq_zero_iff_lt (Nat.pow_pos (by decide))).1 h
 induction k generalizing n with
 | zero => omega
 | succ k ih =>
  by_cases hs : n < 10
  ·rw [Lib.nDigits_small hs]; omega
  ·rw [Lib.nDigits_big hs]
   have h2 : n / 10 < 10 ^ k := by rw [Nat.pow_succ] at hlt; omega
   have hk0 : 1 ≤ k := by
    rcases Nat.eq_zero_or_pos k with e | e
    ·subst e; simp at h2; omega
    ·exact e
   have := ih (n / 10) ((Nat.div_eq_zero_iff_lt (Nat.pow_pos (by decide))).2 h2) hk0 h2
   omega
theorem left1 {k n : Nat} (h : k < Lib.nDigits n) (hk : 1 ≤ k) : 0 < n / 10 ^ k := by
 refine Nat.pos_of_ne_zero fun e => ?_
 have := left0 k n e hk
 omega
theorem leftE {k n : Nat} (h : Lib.nDigits n ≤ k) : n / 10 ^ k = 0 := by
 have h1 := Lib.lt_pow_nDigits n
 have h2 := Nat.pow_le_pow_right (n := 10) (by decide) h
 exact (Nat.div_eq_zero_iff_lt (Nat.pow_pos (by decide))).2 (by omega)
theorem dg_q {n i q : Nat} (hq : n / 10 ^ i = q) : ((Lib.dg n i).toNat : Int) = 48 + (q : Int) % 10 := by
 unfold Lib.dg
 rw [hq, UInt8.toNat_ofNat', Nat.mod_eq_of_lt (by omega)]; omega
theorem k76p (n : Nat) (h : n < 9223372036854775808) : KOk cF 76 [.int .i64 (n : Int)] (sA (Lib.decDigits n)) := by
 refine KOk.of cF_ok eF.g Tryz.func76 rfl (Nat.le_of_ble_eq_true rfl) fun w F => ?_
 have c1 : ¬ (n : Int) = -9223372036854775808 := by omega
 have c2 : ¬ (n : Int) < 0 := by omega
 have h19 := nD_19 h
 have hp := Lib.nDigits_pos n
 repeat' first | refine Go.seq ?_ | refine Go.region rfl ?_ | refine Ops.nil ?_ | refine Ops.val eF rfl rfl Zw (by first | exact Z1 | exact Z3) ?_ | refine Go.condFt rfl Za ?_ | refine Go.block ?_ | refine Go.skip ?_
 refine Go.loop (fun i : Nat => [(0, .int .i64 ((n / 10 ^ i : Nat) : Int)), (3, sA (dgs n i)), (4, .int .i64 i)]) (fun _ => hS) (fun i => i ≤ Lib.nDigits n) (fun i => Lib.nDigits n - i) 0 (Nat.zero_le _) ⟨by simp; rfl, rfl, rfl, trivial⟩ rfl (fun i hi ih => ?_)
 have hle : n / 10 ^ i ≤ n := Nat.div_le_self _ _
 have hsl := dgs_len n i
 by_cases hlt : i < Lib.nDigits n
 ·have g := ih (i + 1) (by omega) (by omega)
  rw [dgs_succ, Nat.pow_succ, ← Nat.div_div_eq_div_mul] at g
  have hd := dg_q (n := n) (i := i) rfl
  have c3 : 0 < n / 10 ^ i ∨ dgs n i = [] := by
   rcases Nat.eq_zero_or_pos i with e | e
   ·subst e; exact .inr rfl
   ·exact .inl (left1 hlt e)
  generalize n / 10 ^ i = q at *
  have c4 : (i : Int) < 20 := by omega
  by_cases c5 : (q : Int) > 0
  ·repeat' first | refine Go.seq ?_ | refine Go.region rfl ?_ | refine Ops.nil ?_ | refine Ops.val eF rfl rfl Zw (Hop.convB (b := Lib.dg n i) eF rfl rfl rfl rfl rfl (by omega)) ?_ | refine Ops.val eF rfl rfl Zw (Hop.str (l := [_]) eF rfl rfl rfl rfl rfl rfl rfl rfl) ?_ | refine Ops.val eF rfl rfl Zw (Hop.catS rfl rfl rfl (by show 1 + _ ≤ _; omega)) ?_ | refine Ops.val eF rfl rfl Zw (by first | exact Z1 | exact Z2 | exact Z3 | exact Y14 | exact Y17 | exact Y18) ?_ | refine Ops.skip rfl rfl Zn ?_ | refine Ops.gT rfl rfl Za ?_ | refine Ops.data eF rfl rfl Zw rfl (Hop.bslice eF rfl rfl rfl rfl rfl rfl rfl rfl rfl rfl rfl) rfl rfl ?_ | refine Go.condT rfl ?_ | refine Go.block ?_ | refine Go.unblk ?_ | refine Go.skip ?_
   exact Go.to g ⟨by simp [lkO, Int.natCast_ediv], rfl, rfl, trivial⟩
  ·have c6 : dgs n i = [] := c3.resolve_left (by omega)
   repeat' first | refine Go.seq ?_ | refine Go.region rfl ?_ | refine Ops.nil ?_ | refine Ops.val eF rfl rfl Zw (Hop.convB (b := Lib.dg n i) eF rfl rfl rfl rfl rfl (by omega)) ?_ | refine Ops.val eF rfl rfl Zw (Hop.str (l := [_]) eF rfl rfl rfl rfl rfl rfl rfl rfl) ?_ | refine Ops.val eF rfl rfl Zw (Hop.catS rfl rfl rfl (by show 1 + _ ≤ _; omega)) ?_ | refine Ops.val eF rfl rfl Zw (by first | exact Z1 | exact Z2 | exact Z3 | exact Y12 | exact Y14 | exact Y17 | exact Y18) ?_ | refine Ops.gT rfl rfl Za ?_ | refine Ops.gF rfl rfl Za ?_ | refine Ops.data eF rfl rfl Zw rfl (Hop.bslice eF rfl rfl rfl rfl rfl rfl rfl rfl rfl rfl rfl) rfl rfl ?_ | refine Go.condTt rfl Za ?_ | refine Go.block ?_ | refine Go.unblk ?_ | refine Go.skip ?_
   exact Go.to g ⟨by simp [lkO, Int.natCast_ediv], rfl, rfl, trivial⟩
 ·have ei : i = Lib.nDigits n := by omega
  have hq := leftE (n := n) (k := i) (by omega)
  have c6 : ¬ dgs n i = [] := fun e => by rw [e] at hsl; simp at hsl; omega
  have c5 : ¬ ((n / 10 ^ i : Nat) : Int) > 0 := by rw [hq]; decide
  have c4 : (i : Int) < 20 := by omega
  rw [← dgs_all n, ← ei]
  generalize n / 10 ^ i = q at *
  repeat' first | refine Go.seq ?_ | refine Go.region rfl ?_ | refine Ops.nil ?_ | refine Ops.val eF rfl rfl Zw (by first | exact Z1 | exact Z2 | exact Z3 | exact Y12) ?_ | refine Ops.gT rfl rfl Za ?_ | refine Ops.gF rfl rfl Za ?_ | refine Go.condFt rfl Za ?_ | refine Go.exit rfl ?_ | refine Go.retF rfl ?_ rfl
  all_goals rfl
theorem minI : Lib.itoa (-9223372036854775808) = [45, 57, 50, 50, 51, 51, 55, 50, 48, 51, 54, 56, 53, 52, 55, 55, 53, 56, 48, 56] := by
 unfold Lib.itoa
 rw [if_pos (by decide)]
 have e : (-9223372036854775808 : Int).natAbs = 9223372036854775808 := rfl
 rw [e, Lib.decDigits_eq, Lib.nDigits_unique 18 _ (by decide) (by decide)]
 decide
theorem k76 (n : Int) (h0 : -9223372036854775808 ≤ n) (h1 : n ≤ 9223372036854775807) : KOk cF 76 [.int .i64 n] (sA (Lib.itoa n)) := by
 by_cases hn : n < 0
 ·by_cases hm : n = -9223372036854775808
  ·subst hm
   refine KOk.of cF_ok eF.g Tryz.func76 rfl (Nat.le_of_ble_eq_true rfl) fun w F => ?_
   rw [minI]
   repeat' first | refine Go.seq ?_ | refine Go.region rfl ?_ | refine Ops.nil ?_ | refine Ops.val eF rfl rfl Zw (by first | exact Z1 | exact Z3) ?_ | refine Go.condTt rfl Za ?_ | refine Go.retF rfl ?_ rfl
   all_goals rfl
  ·have k1 := k76p n.natAbs (by omega)
   rw [show ((n.natAbs : Nat) : Int) = -n by omega] at k1
   have hl : (Lib.decDigits n.natAbs).length ≤ 19 := by rw [Lib.decDigits_length]; exact nD_19 (by omega)
   rw [show Lib.itoa n = [45] ++ Lib.decDigits n.natAbs by unfold Lib.itoa; rw [if_pos hn]; rfl]
   refine KOk.of cF_ok eF.g Tryz.func76 rfl (Nat.le_of_ble_eq_true rfl) fun w F => ?_
   repeat' first | refine Go.seq ?_ | refine Go.region rfl ?_ | refine Ops.nil ?_ | refine Ops.val eF rfl rfl Zw (Hop.negI rfl rfl (by omega)) ?_ | refine Ops.val eF rfl rfl Zw (Hop.catS rfl (show _ = some (sA [45]) from rfl) rfl (by show 1 + _ ≤ _; omega)) ?_ | refine Ops.val eF rfl rfl Zw (by first | exact Z1 | exact Z3) ?_ | refine Ops.call eF rfl rfl Zw rfl rfl rfl rfl (k1) rfl ?_ | refine Go.condTt rfl Za ?_ | refine Go.condFt rfl Za ?_ | refine Go.skip ?_ | refine Go.retF rfl ?_ rfl
   all_goals rfl
 ·have k1 := k76p n.toNat (by omega)
  rw [show ((n.toNat : Nat) : Int) = n by omega] at k1
  rw [show Lib.itoa n = Lib.decDigits n.toNat by unfold Lib.itoa; rw [if_neg hn]]
  exact k1
end Go.Px.Du
end
section
set_option maxHeartbeats 4000000
set_option maxRecDepth 20000
namespace Go.Px.Du
open Go.Proofs Go.Px.Ds Go.Px.De
attribute [local irreducible] Go.Px.KOk Go.Px.KOkW
theorem take_drop1 {s : Str} {i : Nat} (h : i < s.length) : (s.take ((i : Int) + 1).toNat).drop (i : Int).toNat = [s.getD i default] := by
 rw [Int.toNat_natCast, show ((i : Int) + 1).toNat = i + 1 by omega, take_succ' h, List.drop_append_of_le_length (by rw [List.length_take]; omega)]
 rw [List.drop_of_length_le (by rw [List.length_take]; omega)]; rfl
theorem k58 (v : Va) (hv : VaP v) (hn : i64 v.n) (hs : v.s.length ≤ 100000) : KOk cF 58 [.agg (encVa v)] (.tup [sA (vtxt v), .int .i64 0]) := by
 have k1 := k29 v hs
 rw [bd_of hv] at k1
 have k2 := k76 v.n hn.1 hn.2
 have il : (Lib.itoa v.n).length ≤ 1000 := Nat.le_trans (Lib.itoa_length_le v.n hn.1 hn.2) (by decide)
 refine KOk.of cF_ok eF.g Tryz.func58 rfl (Nat.le_of_ble_eq_true rfl) fun w F => ?_
 by_cases c1 : v.k = 1
 ·rw [show vtxt v = Lib.itoa v.n from if_pos c1]
  repeat' first | refine Go.seq ?_ | refine Go.region rfl ?_ | refine Ops.nil ?_ | refine Ops.val eF rfl rfl Zw (by first | exact Z1 | exact Z2 | exact Z3 | exact Z4 | exact Z5) ?_ | refine Ops.call eF rfl rfl Zw rfl rfl rfl rfl (k1) rfl ?_ | refine Ops.call eF rfl rfl Zw rfl rfl rfl rfl (k2) rfl ?_ | refine Ops.boxR eF rfl rfl Zw rfl rfl rfl rfl ?_ | refine Go.condF rfl ?_ | refine Go.condTt rfl Za ?_ | refine Go.block ?_ | refine Go.skip ?_ | refine Go.retF rfl ?_ rfl
  all_goals rfl
 by_cases c2 : v.k = 2
 ·rw [show vtxt v = tF (bd (v.n = 1)) by unfold vtxt; rw [if_neg c1, if_pos c2]]
  by_cases cn : v.n = 1
  ·rw [bd_of cn]
   repeat' first | refine Go.seq ?_ | refine Go.region rfl ?_ | refine Ops.nil ?_ | refine Ops.val eF rfl rfl Zw (by first | exact Z1 | exact Z2 | exact Z3 | exact Z4 | exact Z5) ?_ | refine Ops.call eF rfl rfl Zw rfl rfl rfl rfl (k1) rfl ?_ | refine Ops.boxR eF rfl rfl Zw rfl rfl rfl rfl ?_ | refine Go.condF rfl ?_ | refine Go.condTt rfl Za ?_ | refine Go.condFt rfl Za ?_ | refine Go.block ?_ | refine Go.skip ?_ | refine Go.retF rfl ?_ rfl
   all_goals rfl
  ·rw [bd_no cn]
   repeat' first | refine Go.seq ?_ | refine Go.region rfl ?_ | refine Ops.nil ?_ | refine Ops.val eF rfl rfl Zw (by first | exact Z1 | exact Z2 | exact Z3 | exact Z4 | exact Z5) ?_ | refine Ops.call eF rfl rfl Zw rfl rfl rfl rfl (k1) rfl ?_ | refine Ops.boxR eF rfl rfl Zw rfl rfl rfl rfl ?_ | refine Go.condF rfl ?_ | refine Go.condTt rfl Za ?_ | refine Go.condFt rfl Za ?_ | refine Go.block ?_ | refine Go.skip ?_ | refine Go.retF rfl ?_ rfl
   all_goals rfl
 by_cases c5 : v.k = 5
 ·rw [show vtxt v = [64] ++ Lib.itoa v.n by unfold vtxt; rw [if_neg c1, if_neg c2, if_pos c5]; rfl]
  repeat' first | refine Go.seq ?_ | refine Go.region rfl ?_ | refine Ops.nil ?_ | refine Ops.boxR eF rfl rfl Zw rfl rfl rfl rfl ?_ | refine Ops.val eF rfl rfl Zw (Hop.catS rfl (show _ = some (sA [64]) from rfl) rfl (by show 1 + _ ≤ _; omega)) ?_ | refine Ops.val eF rfl rfl Zw (by first | exact Z1 | exact Z2 | exact Z3 | exact Z4 | exact Z5) ?_ | refine Ops.call eF rfl rfl Zw rfl rfl rfl rfl (k1) rfl ?_ | refine Ops.call eF rfl rfl Zw rfl rfl rfl rfl (k2) rfl ?_ | refine Go.condF rfl ?_ | refine Go.condTt rfl Za ?_ | refine Go.condFt rfl Za ?_ | refine Go.block ?_ | refine Go.skip ?_ | refine Go.retF rfl ?_ rfl
  all_goals rfl
 by_cases c6 : v.k = 6
 ·rw [show vtxt v = [33] ++ Lib.itoa v.n by unfold vtxt; rw [if_neg c1, if_neg c2, if_neg c5, if_pos c6]; rfl]
  repeat' first | refine Go.seq ?_ | refine Go.region rfl ?_ | refine Ops.nil ?_ | refine Ops.boxR eF rfl rfl Zw rfl rfl rfl rfl ?_ | refine Ops.val eF rfl rfl Zw (Hop.catS rfl (show _ = some (sA [33]) from rfl) rfl (by show 1 + _ ≤ _; omega)) ?_ | refine Ops.val eF rfl rfl Zw (by first | exact Z1 | exact Z2 | exact Z3 | exact Z4 | exact Z5) ?_ | refine Ops.call eF rfl rfl Zw rfl rfl rfl rfl (k1) rfl ?_ | refine Ops.call eF rfl rfl Zw rfl rfl rfl rfl (k2) rfl ?_ | refine Go.condF rfl ?_ | refine Go.condTt rfl Za ?_ | refine Go.condFt rfl Za ?_ | refine Go.block ?_ | refine Go.skip ?_ | refine Go.retF rfl ?_ rfl
  all_goals rfl
 by_cases c7 : v.k = 7
 ·rw [show vtxt v = [58] ++ v.s by unfold vtxt; rw [if_neg c1, if_neg c2, if_neg c5, if_neg c6, if_pos c7]; rfl]
  repeat' first | refine Go.seq ?_ | refine Go.region rfl ?_ | refine Ops.nil ?_ | refine Ops.boxR eF rfl rfl Zw rfl rfl rfl rfl ?_ | refine Ops.val eF rfl rfl Zw (Hop.catS rfl (show _ = some (sA [58]) from rfl) rfl (by show 1 + _ ≤ _; omega)) ?_ | refine Ops.val eF rfl rfl Zw (by first | exact Z1 | exact Z2 | exact Z3 | exact Z4 | exact Z5) ?_ | refine Ops.call eF rfl rfl Zw rfl rfl rfl rfl (k1) rfl ?_ | refine Go.condF rfl ?_ | refine Go.condTt rfl Za ?_ | refine Go.condFt rfl Za ?_ | refine Go.block ?_ | refine Go.skip ?_ | refine Go.retF rfl ?_ rfl
  all_goals rfl
 by_cases c4 : v.k = 4
 ·rw [show vtxt v = [35] ++ hxs v.s by unfold vtxt; rw [if_neg c1, if_neg c2, if_neg c5, if_neg c6, if_neg c7, if_pos c4]; rfl]
  repeat' first | refine Go.seq ?_ | refine Go.region rfl ?_ | refine Ops.nil ?_ | refine Ops.boxR eF rfl rfl Zw rfl rfl rfl rfl ?_ | refine Ops.val eF rfl rfl Zw (by first | exact Z1 | exact Z2 | exact Z3 | exact Z4 | exact Z5) ?_ | refine Ops.call eF rfl rfl Zw rfl rfl rfl rfl (k1) rfl ?_ | refine Go.condF rfl ?_ | refine Go.condTt rfl Za ?_ | refine Go.condFt rfl Za ?_ | refine Go.block ?_ | refine Go.skip ?_
  refine Go.loop (fun i : Nat => [(1, .rptr (encVa v)), (5, sA (hxs (v.s.take i))), (6, .int .i64 i)]) (fun _ => hS) (fun i => i ≤ v.s.length) (fun i => v.s.length - i) 0 (Nat.zero_le _) Zt rfl (fun i hi ih => ?_)
  have hl := hxs_len (v.s.take i)
  rw [List.length_take] at hl
  by_cases c0 : (i : Int) < (v.s.length : Int)
  ·have hlt : i < v.s.length := by omega
   have g := ih (i + 1) (by omega) (by omega)
   have kh := k77 (v.s.getD i default)
   rw [hxs_succ hlt] at g
   repeat' first | refine Go.seq ?_ | refine Go.region rfl ?_ | refine Ops.nil ?_ | refine Ops.val eF rfl rfl Zw (Hop.catS rfl rfl rfl (by show _ + 2 ≤ _; omega)) ?_ | refine Ops.val eF rfl rfl Zw (by first | exact Z1 | exact Z3 | exact Y14 | exact Z4 | exact Y26 | exact Z5 | exact Z6) ?_ | refine Ops.call eF rfl rfl Zw rfl rfl rfl rfl (kh) rfl ?_ | refine Go.condTt rfl Za ?_ | refine Go.block ?_ | refine Go.unblk ?_ | refine Go.skip ?_
   all_goals try simp only [Int.toNat_natCast] at *
   exact Go.to g Zt
  ·have ei : i = v.s.length := by omega
   subst ei
   rw [List.take_length] at *
   have hx2 := hxs_len v.s
   repeat' first | refine Go.seq ?_ | refine Go.region rfl ?_ | refine Ops.nil ?_ | refine Ops.val eF rfl rfl Zw (Hop.catS rfl (show _ = some (sA [35]) from rfl) rfl (by show 1 + _ ≤ _; omega)) ?_ | refine Ops.val eF rfl rfl Zw (by first | exact Z1 | exact Z3 | exact Z4 | exact Z5 | exact Z6) ?_ | refine Go.condFt rfl Za ?_ | refine Go.exit rfl ?_ | refine Go.retF rfl ?_ rfl
   all_goals rfl
 have c3 : v.k = 3 := Classical.byContradiction fun c3 => by
  unfold VaP at hv
  rw [if_neg (by omega), if_neg c2, if_neg (by omega), if_neg c5, if_neg c7] at hv
  exact hv
 rw [show vtxt v = [34] ++ qts v.s ++ [34] by unfold vtxt; rw [if_neg c1, if_neg c2, if_neg c5, if_neg c6, if_neg c7, if_neg c4]; rfl]
 repeat' first | refine Go.seq ?_ | refine Go.region rfl ?_ | refine Ops.nil ?_ | refine Ops.boxR eF rfl rfl Zw rfl rfl rfl rfl ?_ | refine Ops.val eF rfl rfl Zw (by first | exact Z1 | exact Z2 | exact Z3 | exact Z4 | exact Z5) ?_ | refine Ops.call eF rfl rfl Zw rfl rfl rfl rfl (k1) rfl ?_ | refine Go.condF rfl ?_ | refine Go.condFt rfl Za ?_ | refine Go.block ?_ | refine Go.unblk ?_ | refine Go.skip ?_
 refine Go.loop (fun i : Nat => [(1, .rptr (encVa v)), (5, sA (qts (v.s.take i))), (7, .int .i64 i)]) (fun _ => hS) (fun i => i ≤ v.s.length) (fun i => v.s.length - i) 0 (Nat.zero_le _) Zt rfl (fun i hi ih => ?_)
 have hl := qts_len (v.s.take i)
 rw [List.length_take] at hl
 by_cases c0 : (i : Int) < (v.s.length : Int)
 ·have hlt : i < v.s.length := by omega
  have g := ih (i + 1) (by omega) (by omega)
  have kh := k77 (v.s.getD i default)
  have kp := k78 (v.s.getD i default)
  cases pc : plainB (v.s.getD i default) with
  | true =>
   rw [pc] at kp
   have eq : qt (v.s.getD i default) = [v.s.getD i default] := by unfold qt; rw [pc]; rfl
   have e1 := take_drop1 hlt
   have e2 : ((v.s.take ((i : Int) + 1).toNat).drop (i : Int).toNat).length = 1 := by rw [e1]; rfl
   rw [qts_succ hlt, eq, ← e1] at g
   repeat' first | refine Go.seq ?_ | refine Go.region rfl ?_ | refine Ops.nil ?_ | refine Ops.val eF rfl rfl Zw (Hop.cutS eF rfl rfl rfl rfl rfl rfl (by omega)) ?_ | refine Ops.val eF rfl rfl Zw (Hop.catS rfl rfl rfl (by omega)) ?_ | refine Ops.val eF rfl rfl Zw (by first | exact Z1 | exact Z3 | exact Y14 | exact Z4 | exact Y26 | exact Z5 | exact Z6) ?_ | refine Ops.call eF rfl rfl Zw rfl rfl rfl rfl (kp) rfl ?_ | refine Go.condT rfl ?_ | refine Go.condTt rfl Za ?_ | refine Go.block ?_ | refine Go.unblk ?_ | refine Go.skip ?_
   exact Go.to g Zt
  | false =>
   rw [pc] at kp
   have eq : qt (v.s.getD i default) = [92] ++ hx (v.s.getD i default) := by unfold qt; rw [pc]; rfl
   rw [qts_succ hlt, eq, ← List.append_assoc] at g
   repeat' first | refine Go.seq ?_ | refine Go.region rfl ?_ | refine Ops.nil ?_ | refine Ops.val eF rfl rfl Zw (Hop.catS rfl rfl (show _ = some (sA [92]) from rfl) (by show _ + 1 ≤ _; omega)) ?_ | refine Ops.val eF rfl rfl Zw (Hop.catS rfl rfl rfl (by show _ + 2 ≤ _; rw [List.length_append]; show _ + 1 + 2 ≤ _; omega)) ?_ | refine Ops.val eF rfl rfl Zw (by first | exact Z1 | exact Z3 | exact Y14 | exact Z4 | exact Y26 | exact Z5 | exact Z6) ?_ | refine Ops.call eF rfl rfl Zw rfl rfl rfl rfl (kp) rfl ?_ | refine Ops.call eF rfl rfl Zw rfl rfl rfl rfl (kh) rfl ?_ | refine Go.condF rfl ?_ | refine Go.condTt rfl Za ?_ | refine Go.block ?_ | refine Go.unblk ?_ | refine Go.skip ?_
   all_goals try simp only [Int.toNat_natCast] at *
   exact Go.to g Zt
 ·have ei : i = v.s.length := by omega
  subst ei
  rw [List.take_length] at *
  have hx2 := qts_len v.s
  repeat' first | refine Go.seq ?_ | refine Go.region rfl ?_ | refine Ops.nil ?_ | refine Ops.val eF rfl rfl Zw (Hop.catS rfl (show _ = some (sA [34]) from rfl) rfl (by show 1 + _ ≤ _; omega)) ?_ | refine Ops.val eF rfl rfl Zw (Hop.catS rfl rfl (show _ = some (sA [34]) from rfl) (by rw [List.length_append]; show 1 + _ + 1 ≤ _; omega)) ?_ | refine Ops.val eF rfl rfl Zw (by first | exact Z1 | exact Z3 | exact Z4 | exact Z5 | exact Z6) ?_ | refine Go.condFt rfl Za ?_ | refine Go.exit rfl ?_ | refine Go.retF rfl ?_ rfl
  all_goals rfl
end Go.Px.Du
end
