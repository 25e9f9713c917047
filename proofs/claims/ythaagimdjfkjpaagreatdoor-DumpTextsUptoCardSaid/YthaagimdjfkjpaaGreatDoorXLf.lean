/- Parts of the proof in YthaagimdjfkjpaaGreatDoorXFin: DuF. -/
import Derived.Test.YthaagimdjfkjpaaGreatDoorXLa
import Derived.Test.YthaagimdjfkjpaaGreatDoorXLe
import Derived.Test.YthaagimdjfkjpaaGreatDoorXK4
import Derived.Lib.ItoaLen
set_option linter.unusedVariables false
set_option linter.unusedSimpArgs false
section
set_option maxHeartbeats 4000000
set_option maxRecDepth 20000
namespace Go.Px.Du
open Go.Proofs Go.Px.Ds Go.Px.De
attribute [local irreducible] Go.Px.KOk Go.Px.KOkW
def qt (c : UInt8) : Str := bif plainB c then [c] else 92 :: hx c
def hxs (s : Str) : Str := s.flatMap hx
def qts (s : Str) : Str := s.flatMap qt
theorem hxs_len : ∀ s : Str, (hxs s).length = 2 * s.length
 | [] => rfl
 | c :: r => by
  have := hxs_len r
  unfold hxs at this ⊢
  rw [List.flatMap_cons, List.length_append, this, List.length_cons]
  show 2 + _ = _
  omega
theorem qt_len (c : UInt8) : (qt c).length ≤ 3 := by unfold qt; cases plainB c <;> simp [hx]
theorem qts_len : ∀ s : Str, (qts s).length ≤ 3 * s.length
 | [] => Nat.le_refl _
 | c :: r => by
  have := qts_len r
  have := qt_len c
  simp only [qts, List.flatMap_cons, List.length_append, List.length_cons] at *; omega
theorem hxs_succ {s : Str} {i : Nat} (h : i < s.length) : hxs (s.take (i + 1)) = hxs (s.take i) ++ hx (s.getD i default) := by
 unfold hxs; rw [take_succ' h, List.flatMap_append]; simp
theorem qts_succ {s : Str} {i : Nat} (h : i < s.length) : qts (s.take (i + 1)) = qts (s.take i) ++ qt (s.getD i default) := by
 unfold qts; rw [take_succ' h, List.flatMap_append]; simp
noncomputable def vtxt (v : Va) : Str :=
 if v.k = 1 then Lib.itoa v.n else if v.k = 2 then tF (bd (v.n = 1)) else if v.k = 5 then 64 :: Lib.itoa v.n else if v.k = 6 then 33 :: Lib.itoa v.n else if v.k = 7 then 58 :: v.s else if v.k = 4 then 35 :: hxs v.s else 34 :: (qts v.s ++ [34])
def i64 (n : Int) : Prop := -9223372036854775808 ≤ n ∧ n ≤ 9223372036854775807
theorem k53 {W : World} (hT : TabW W) (v : Va) (hv : VaP v) (hn : i64 v.n) (hs : v.s.length ≤ 100000) : KOkW cF W 53 [.agg (encVa v)] (.tup [sA (vtxt v), .int .i64 0]) := by
 have k1 := k52 v hs
 rw [bd_of hv] at k1
 have k2 := k68 hT v.n hn.1 hn.2
 have k3 := k69 (bd (v.n = 1))
 have il : (Lib.itoa v.n).length ≤ 1000 := Nat.le_trans (Lib.itoa_length_le v.n hn.1 hn.2) (by decide)
 refine KOkW.of W cF_ok eF.g Tryz.func53 rfl (Nat.le_of_ble_eq_true rfl) fun w F hE => ?_
 have lw : LW W ⟨cF, w, F, fun _ => False, none, none, [], [], []⟩ := LW.none hE
 by_cases c1 : v.k = 1
 ·rw [show vtxt v = Lib.itoa v.n from if_pos c1]
  repeat' first | refine Go.seq ?_ | refine Go.region rfl ?_ | refine Ops.nil ?_ | refine Ops.callX eF lw rfl rfl Zw rfl rfl rfl rfl k2 rfl ?_ | refine Ops.val eF rfl rfl Zw (by first | exact Z1 | exact Z2 | exact Z3 | exact Z4 | exact Z5) ?_ | refine Ops.call eF rfl rfl Zw rfl rfl rfl rfl (k1) rfl ?_ | refine Ops.rowAt eF 0 rfl rfl Zw rfl (Hop.boxC rfl rfl rfl) ?_ | refine Ops.rowAt eF 1 rfl rfl Zw rfl (Hop.alloc eF rfl rfl rfl) ?_ | refine Go.condF rfl ?_ | refine Go.condTt rfl Za ?_ | refine Go.block ?_ | refine Go.skip ?_ | refine Go.retF rfl ?_ rfl
  all_goals rfl
 by_cases c2 : v.k = 2
 ·rw [show vtxt v = tF (bd (v.n = 1)) by unfold vtxt; rw [if_neg c1, if_pos c2]]
  repeat' first | refine Go.seq ?_ | refine Go.region rfl ?_ | refine Ops.nil ?_ | refine Ops.val eF rfl rfl Zw (by first | exact Z1 | exact Z2 | exact Z3 | exact Z4 | exact Z5) ?_ | refine Ops.call eF rfl rfl Zw rfl rfl rfl rfl (k1) rfl ?_ | refine Ops.call eF rfl rfl Zw rfl rfl rfl rfl (k3) rfl ?_ | refine Ops.rowAt eF 0 rfl rfl Zw rfl (Hop.boxC rfl rfl rfl) ?_ | refine Ops.rowAt eF 1 rfl rfl Zw rfl (Hop.alloc eF rfl rfl rfl) ?_ | refine Go.condF rfl ?_ | refine Go.condTt rfl Za ?_ | refine Go.condFt rfl Za ?_ | refine Go.block ?_ | refine Go.skip ?_ | refine Go.retF rfl ?_ rfl
  all_goals rfl
 by_cases c5 : v.k = 5
 ·rw [show vtxt v = [64] ++ Lib.itoa v.n by unfold vtxt; rw [if_neg c1, if_neg c2, if_pos c5]; rfl]
  repeat' first | refine Go.seq ?_ | refine Go.region rfl ?_ | refine Ops.nil ?_ | refine Ops.callX eF lw rfl rfl Zw rfl rfl rfl rfl k2 rfl ?_ | refine Ops.val eF rfl rfl Zw (Hop.catS rfl (show _ = some (sA [64]) from rfl) rfl (by show 1 + _ ≤ _; omega)) ?_ | refine Ops.val eF rfl rfl Zw (by first | exact Z1 | exact Z2 | exact Z3 | exact Z4 | exact Z5) ?_ | refine Ops.call eF rfl rfl Zw rfl rfl rfl rfl (k1) rfl ?_ | refine Ops.rowAt eF 0 rfl rfl Zw rfl (Hop.boxC rfl rfl rfl) ?_ | refine Ops.rowAt eF 1 rfl rfl Zw rfl (Hop.alloc eF rfl rfl rfl) ?_ | refine Go.condF rfl ?_ | refine Go.condTt rfl Za ?_ | refine Go.condFt rfl Za ?_ | refine Go.block ?_ | refine Go.skip ?_ | refine Go.retF rfl ?_ rfl
  all_goals rfl
 by_cases c6 : v.k = 6
 ·rw [show vtxt v = [33] ++ Lib.itoa v.n by unfold vtxt; rw [if_neg c1, if_neg c2, if_neg c5, if_pos c6]; rfl]
  repeat' first | refine Go.seq ?_ | refine Go.region rfl ?_ | refine Ops.nil ?_ | refine Ops.callX eF lw rfl rfl Zw rfl rfl rfl rfl k2 rfl ?_ | refine Ops.val eF rfl rfl Zw (Hop.catS rfl (show _ = some (sA [33]) from rfl) rfl (by show 1 + _ ≤ _; omega)) ?_ | refine Ops.val eF rfl rfl Zw (by first | exact Z1 | exact Z2 | exact Z3 | exact Z4 | exact Z5) ?_ | refine Ops.call eF rfl rfl Zw rfl rfl rfl rfl (k1) rfl ?_ | refine Ops.rowAt eF 0 rfl rfl Zw rfl (Hop.boxC rfl rfl rfl) ?_ | refine Ops.rowAt eF 1 rfl rfl Zw rfl (Hop.alloc eF rfl rfl rfl) ?_ | refine Go.condF rfl ?_ | refine Go.condTt rfl Za ?_ | refine Go.condFt rfl Za ?_ | refine Go.block ?_ | refine Go.skip ?_ | refine Go.retF rfl ?_ rfl
  all_goals rfl
 by_cases c7 : v.k = 7
 ·rw [show vtxt v = [58] ++ v.s by unfold vtxt; rw [if_neg c1, if_neg c2, if_neg c5, if_neg c6, if_pos c7]; rfl]
  repeat' first | refine Go.seq ?_ | refine Go.region rfl ?_ | refine Ops.nil ?_ | refine Ops.val eF rfl rfl Zw (Hop.catS rfl (show _ = some (sA [58]) from rfl) rfl (by show 1 + _ ≤ _; omega)) ?_ | refine Ops.val eF rfl rfl Zw (by first | exact Z1 | exact Z2 | exact Z3 | exact Z4 | exact Z5) ?_ | refine Ops.call eF rfl rfl Zw rfl rfl rfl rfl (k1) rfl ?_ | refine Ops.rowAt eF 0 rfl rfl Zw rfl (Hop.boxC rfl rfl rfl) ?_ | refine Ops.rowAt eF 1 rfl rfl Zw rfl (Hop.alloc eF rfl rfl rfl) ?_ | refine Go.condF rfl ?_ | refine Go.condTt rfl Za ?_ | refine Go.condFt rfl Za ?_ | refine Go.block ?_ | refine Go.skip ?_ | refine Go.retF rfl ?_ rfl
  all_goals rfl
 by_cases c4 : v.k = 4
 ·rw [show vtxt v = 35 :: hxs v.s by unfold vtxt; rw [if_neg c1, if_neg c2, if_neg c5, if_neg c6, if_neg c7, if_pos c4]]
  have kb := m33_44 (.inl rfl) 0 [] 35 (by decide)
  repeat' first | refine Go.seq ?_ | refine Go.region rfl ?_ | refine Ops.nil ?_ | refine Ops.boxR eF rfl rfl Zw rfl rfl rfl rfl ?_ | refine Ops.change (Chg.tokCellJ 1 0 1 5 1 2 rfl (by decide) rfl rfl rfl rfl) ?_ | refine Ops.callM (v' := .nilifc) (ab := [.row ⟨44, 2, .leaf, [.ptr 0 0, .own 1 1 1], none⟩, .arr 5 1 1 (byC 35)]) eF [0, 1] 2 Zw rfl rfl rfl rfl (kb) rfl (wk_eq rfl) rfl Zb Zo rfl rfl rfl rfl rfl rfl rfl ?_ | refine Ops.val eF rfl rfl Zw (by first | exact Z1 | exact Z2 | exact Z3 | exact Z4 | exact Z5 | exact Z6) ?_ | refine Ops.call eF rfl rfl Zw rfl rfl rfl rfl (k1) rfl ?_ | refine Ops.bytes eF rfl rfl Zw rfl rfl rfl rfl rfl rfl rfl rfl ?_ | refine Ops.rowAt eF 0 rfl rfl Zw rfl (Hop.alloc eF rfl rfl rfl) ?_ | refine Go.condF rfl ?_ | refine Go.condTt rfl Za ?_ | refine Go.condFt rfl Za ?_ | refine Go.block ?_ | refine Go.skip ?_
  refine Go.toHQ (N := 2) (bs := [.row ⟨44, 2, .leaf, [.ptr 0 0, .own 1 1 1], none⟩, .arr 5 1 1 (byC 35)]) (L' := [(4, .ptr 0 0), (47, dsl 1 encU v.s), (48, .int .i64 v.s.length), (49, .int .i64 (0 : Nat))]) ?_ rfl eF.g Zt rfl rfl Zg Zl rfl rfl
  refine Go.loop (fun i : Nat => [(4, .ptr 0 0), (47, dsl 1 encU v.s), (48, .int .i64 v.s.length), (49, .int .i64 i)]) (fun i => hq 2 [.row ⟨44, 2, .leaf, [.ptr 0 0, .own 1 (1 + (hxs (v.s.take i)).length) 1], none⟩, .arr 5 1 (1 + (hxs (v.s.take i)).length) (byC 35 ++ (hxs (v.s.take i)).flatMap byC)]) (fun i => i ≤ v.s.length) (fun i => v.s.length - i) 0 (Nat.zero_le _) Zt rfl (fun i hi ih => ?_)
  have hl := hxs_len (v.s.take i)
  rw [List.length_take] at hl
  by_cases c0 : (i : Int) < (v.s.length : Int)
  ·have hlt : i < v.s.length := by omega
   have g := ih (i + 1) (by omega) (by omega)
   have kh := k70 (v.s.getD i default)
   have kw := m12_44 (a := .ptr 0 0) (.inr rfl) (1 + (hxs (v.s.take i)).length) (byC 35 ++ (hxs (v.s.take i)).flatMap byC) (hx (v.s.getD i default)) (by simp [hx]) (by show 1 + _ + 2 ≤ _; omega)
   rw [hxs_succ hlt, List.length_append, List.flatMap_append, ← Nat.add_assoc, ← List.append_assoc] at g
   repeat' first | refine Go.seq ?_ | refine Go.region rfl ?_ | refine Ops.nil ?_ | refine Ops.callM (v' := .tup [.int .i64 (hx (v.s.getD i default)).length, .nilifc]) (ab := [.row ⟨44, 2, .leaf, [.ptr 0 0, .own 1 (1 + (hxs (v.s.take i)).length + (hx (v.s.getD i default)).length) 1], none⟩, .arr 5 1 (1 + (hxs (v.s.take i)).length + (hx (v.s.getD i default)).length) (byC 35 ++ (hxs (v.s.take i)).flatMap byC ++ (hx (v.s.getD i default)).flatMap byC)]) eF [0, 1] 2 Zw rfl rfl rfl rfl (kw) rfl (wk_eq rfl) rfl Zb Zo rfl rfl rfl rfl rfl rfl rfl ?_ | refine Ops.val eF rfl rfl Zw (by first | exact Z1 | exact Z3 | exact Y14 | exact Y24 | exact Z5) ?_ | refine Ops.call eF rfl rfl Zw rfl rfl rfl rfl (kh) rfl ?_ | refine Go.condTt rfl Za ?_ | refine Go.block ?_ | refine Go.unblk ?_ | refine Go.skip ?_
   all_goals try simp only [Int.toNat_natCast] at *
   exact Go.toQ g rfl eF.g Zt rfl rfl Zg Zl rfl rfl
  ·have ei : i = v.s.length := by omega
   subst ei
   rw [List.take_length] at *
   have hx2 := hxs_len v.s
   have ks := m13_44 (35 :: hxs v.s) (by simp) (by simp only [List.length_cons]; omega)
   rw [show (35 :: hxs v.s).length = 1 + (hxs v.s).length by simp only [List.length_cons]; omega] at ks
   repeat' first | refine Go.seq ?_ | refine Go.region rfl ?_ | refine Ops.nil ?_ | refine Ops.callM (v' := sA (35 :: hxs v.s)) (ab := [.row ⟨44, 2, .leaf, [.ptr 0 0, .own 1 (1 + (hxs v.s).length) 1], none⟩, .none]) eF [0, 1] 2 Zw rfl rfl rfl rfl (ks) rfl (wk_eq rfl) rfl Zb Zo rfl rfl rfl rfl rfl rfl rfl ?_ | refine Ops.val eF rfl rfl Zw (by first | exact Z1 | exact Z3) ?_ | refine Go.condFt rfl Za ?_ | refine Go.exit rfl ?_ | refine Go.retF rfl ?_ rfl
   all_goals rfl
 have c3 : v.k = 3 := Classical.byContradiction fun c3 => by
  unfold VaP at hv
  rw [if_neg (by omega), if_neg c2, if_neg (by omega), if_neg c5, if_neg c7] at hv
  exact hv
 rw [show vtxt v = 34 :: (qts v.s ++ [34]) by unfold vtxt; rw [if_neg c1, if_neg c2, if_neg c5, if_neg c6, if_neg c7, if_neg c4]]
 have kb := m33_44 (.inl rfl) 0 [] 34 (by decide)
 repeat' first | refine Go.seq ?_ | refine Go.region rfl ?_ | refine Ops.nil ?_ | refine Ops.boxR eF rfl rfl Zw rfl rfl rfl rfl ?_ | refine Ops.change (Chg.tokCellJ 1 0 1 5 1 2 rfl (by decide) rfl rfl rfl rfl) ?_ | refine Ops.callM (v' := .nilifc) (ab := [.row ⟨44, 2, .leaf, [.ptr 0 0, .own 1 1 1], none⟩, .arr 5 1 1 (byC 34)]) eF [0, 1] 2 Zw rfl rfl rfl rfl (kb) rfl (wk_eq rfl) rfl Zb Zo rfl rfl rfl rfl rfl rfl rfl ?_ | refine Ops.val eF rfl rfl Zw (by first | exact Z1 | exact Z2 | exact Z3 | exact Z4 | exact Z5 | exact Z6) ?_ | refine Ops.call eF rfl rfl Zw rfl rfl rfl rfl (k1) rfl ?_ | refine Ops.bytes eF rfl rfl Zw rfl rfl rfl rfl rfl rfl rfl rfl ?_ | refine Ops.rowAt eF 0 rfl rfl Zw rfl (Hop.alloc eF rfl rfl rfl) ?_ | refine Go.condF rfl ?_ | refine Go.condFt rfl Za ?_ | refine Go.block ?_ | refine Go.unblk ?_ | refine Go.skip ?_
 refine Go.toHQ (N := 2) (bs := [.row ⟨44, 2, .leaf, [.ptr 0 0, .own 1 1 1], none⟩, .arr 5 1 1 (byC 34)]) (L' := [(4, .ptr 0 0), (61, dsl 1 encU v.s), (62, .int .i64 v.s.length), (63, .int .i64 (0 : Nat))]) ?_ rfl eF.g Zt rfl rfl Zg Zl rfl rfl
 refine Go.loop (fun i : Nat => [(4, .ptr 0 0), (61, dsl 1 encU v.s), (62, .int .i64 v.s.length), (63, .int .i64 i)]) (fun i => hq 2 [.row ⟨44, 2, .leaf, [.ptr 0 0, .own 1 (1 + (qts (v.s.take i)).length) 1], none⟩, .arr 5 1 (1 + (qts (v.s.take i)).length) (byC 34 ++ (qts (v.s.take i)).flatMap byC)]) (fun i => i ≤ v.s.length) (fun i => v.s.length - i) 0 (Nat.zero_le _) Zt rfl (fun i hi ih => ?_)
 have hl := qts_len (v.s.take i)
 rw [List.length_take] at hl
 by_cases c0 : (i : Int) < (v.s.length : Int)
 ·have hlt : i < v.s.length := by omega
  have g := ih (i + 1) (by omega) (by omega)
  have kh := k70 (v.s.getD i default)
  have kp := k71 (v.s.getD i default)
  have hcl := qt_len (v.s.getD i default)
  cases pc : plainB (v.s.getD i default) with
  | true =>
   rw [pc] at kp
   have eq : qt (v.s.getD i default) = [v.s.getD i default] := by unfold qt; rw [pc]; rfl
   have kw := m33_44 (a := .ptr 0 0) (.inr rfl) (1 + (qts (v.s.take i)).length) (byC 34 ++ (qts (v.s.take i)).flatMap byC) (v.s.getD i default) (by omega)
   rw [qts_succ hlt, eq, List.length_append, List.flatMap_append, ← Nat.add_assoc, ← List.append_assoc] at g
   repeat' first | refine Go.seq ?_ | refine Go.region rfl ?_ | refine Ops.nil ?_ | refine Ops.callM (v' := .nilifc) (ab := [.row ⟨44, 2, .leaf, [.ptr 0 0, .own 1 (1 + (qts (v.s.take i)).length + 1) 1], none⟩, .arr 5 1 (1 + (qts (v.s.take i)).length + 1) (byC 34 ++ (qts (v.s.take i)).flatMap byC ++ byC (v.s.getD i default))]) eF [0, 1] 2 Zw rfl rfl rfl rfl (kw) rfl (wk_eq rfl) rfl Zb Zo rfl rfl rfl rfl rfl rfl rfl ?_ | refine Ops.val eF rfl rfl Zw (by first | exact Z1 | exact Z3 | exact Y14 | exact Y24 | exact Z5) ?_ | refine Ops.call eF rfl rfl Zw rfl rfl rfl rfl (kp) rfl ?_ | refine Go.condT rfl ?_ | refine Go.condTt rfl Za ?_ | refine Go.block ?_ | refine Go.unblk ?_ | refine Go.skip ?_
   all_goals try simp only [Int.toNat_natCast] at *
   exact Go.toQ g rfl eF.g Zt rfl rfl Zg Zl rfl rfl
  | false =>
   rw [pc] at kp
   have eq : qt (v.s.getD i default) = [92] ++ hx (v.s.getD i default) := by unfold qt; rw [pc]; rfl
   have kw := m12_44 (a := .ptr 0 0) (.inr rfl) (1 + (qts (v.s.take i)).length) (byC 34 ++ (qts (v.s.take i)).flatMap byC) ([92] ++ hx (v.s.getD i default)) (by simp) (by show 1 + _ + 3 ≤ _; omega)
   rw [qts_succ hlt, eq, List.length_append, List.flatMap_append, ← Nat.add_assoc, ← List.append_assoc] at g
   repeat' first | refine Go.seq ?_ | refine Go.region rfl ?_ | refine Ops.nil ?_ | refine Ops.val eF rfl rfl Zw (Hop.catS rfl (show _ = some (sA [92]) from rfl) rfl (by show 1 + 2 ≤ _; omega)) ?_ | refine Ops.callM (v' := .tup [.int .i64 ([92] ++ hx (v.s.getD i default)).length, .nilifc]) (ab := [.row ⟨44, 2, .leaf, [.ptr 0 0, .own 1 (1 + (qts (v.s.take i)).length + ([92] ++ hx (v.s.getD i default)).length) 1], none⟩, .arr 5 1 (1 + (qts (v.s.take i)).length + ([92] ++ hx (v.s.getD i default)).length) (byC 34 ++ (qts (v.s.take i)).flatMap byC ++ ([92] ++ hx (v.s.getD i default)).flatMap byC)]) eF [0, 1] 2 Zw rfl rfl rfl rfl (kw) rfl (wk_eq rfl) rfl Zb Zo rfl rfl rfl rfl rfl rfl rfl ?_ | refine Ops.val eF rfl rfl Zw (by first | exact Z1 | exact Z3 | exact Y14 | exact Y24 | exact Z5) ?_ | refine Ops.call eF rfl rfl Zw rfl rfl rfl rfl (kp) rfl ?_ | refine Ops.call eF rfl rfl Zw rfl rfl rfl rfl (kh) rfl ?_ | refine Go.condF rfl ?_ | refine Go.condTt rfl Za ?_ | refine Go.block ?_ | refine Go.unblk ?_ | refine Go.skip ?_
   all_goals try simp only [Int.toNat_natCast] at *
   exact Go.toQ g rfl eF.g Zt rfl rfl Zg Zl rfl rfl
 ·have ei : i = v.s.length := by omega
  subst ei
  rw [List.take_length] at *
  have hx2 := qts_len v.s
  have ks := m13_44 (34 :: qts v.s) (by simp) (by simp only [List.length_cons]; omega)
  rw [show (34 :: qts v.s).length = 1 + (qts v.s).length by simp only [List.length_cons]; omega] at ks
  rw [show 34 :: (qts v.s ++ [34]) = (34 :: qts v.s) ++ [34] from rfl]
  repeat' first | refine Go.seq ?_ | refine Go.region rfl ?_ | refine Ops.nil ?_ | refine Ops.callM (v' := sA (34 :: qts v.s)) (ab := [.row ⟨44, 2, .leaf, [.ptr 0 0, .own 1 (1 + (qts v.s).length) 1], none⟩, .none]) eF [0, 1] 2 Zw rfl rfl rfl rfl (ks) rfl (wk_eq rfl) rfl Zb Zo rfl rfl rfl rfl rfl rfl rfl ?_ | refine Ops.val eF rfl rfl Zw (Hop.catS rfl rfl (show _ = some (sA [34]) from rfl) (by show _ + 1 + 1 ≤ _; omega)) ?_ | refine Ops.val eF rfl rfl Zw (by first | exact Z1 | exact Z3) ?_ | refine Go.condFt rfl Za ?_ | refine Go.exit rfl ?_ | refine Go.retF rfl ?_ rfl
  all_goals rfl
end Go.Px.Du
end
