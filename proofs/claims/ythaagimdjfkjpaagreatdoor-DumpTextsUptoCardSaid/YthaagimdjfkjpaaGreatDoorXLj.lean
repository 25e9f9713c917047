/- Parts of the proof in YthaagimdjfkjpaaGreatDoorXFin: DuJb. -/
import Derived.Test.YthaagimdjfkjpaaGreatDoorXLh
import Derived.Test.YthaagimdjfkjpaaGreatDoorXK4
set_option linter.unusedVariables false
set_option linter.unusedSimpArgs false
section
set_option maxHeartbeats 8000000
set_option maxRecDepth 20000
namespace Go.Px.Du
open Go.Proofs Go.Px.Ds Go.Px.De
attribute [local irreducible] Go.Px.KOk Go.Px.KOkW
theorem m42b1 {W : World} (hT : TabW W) (k54 : ∀ s, NmP s → KOk cF 54 [sA s] (.bool true)) (x : Nd) (IH : LstW W x.kids) (hx : x.k ≠ 1 ∧ x.k ≠ 2) (n : Nat) (cs : List AV) (dp mn : Nat) (hok : x.ok dp) (hn : n + x.sho.length ≤ 900000) (hm0 : mn + x.cnt ≤ 5000) (hd0 : dp ≤ 50) :
  KMW cF W 42 [.row 82 [.ptr 0 0, .own 1 n 1, .int .i64 dp, .int .i64 mn, .bool false], .arr 5 1 n cs] [.ptr 0 0, .agg (encN x)] (.tup []) [.row 82 [.ptr 0 0, .own 1 (n + x.sho.length) 1, .int .i64 dp, .int .i64 (mn + x.cnt : Nat), .bool false], .arr 5 1 (n + x.sho.length) (cs ++ x.sho.flatMap byC)] := by
 obtain ⟨k, v, s, kids, ln, co⟩ := x
 unfold Nd.cnt at hm0
 have hx1 : ¬ k = 1 := hx.1
 have hx2 : ¬ k = 2 := hx.2
 rcases hok with ⟨hk, _⟩ | ⟨hk, _⟩ | ⟨hk, rfl, rfl, hd, hok⟩
 ·exact absurd hk hx.1
 ·exact absurd hk hx.2
 have es : Nd.sho (.mk k ⟨0, 0, []⟩ [] kids ln co) = opn k :: (jn [32] kids ++ [cls k]) := by unfold Nd.sho; rw [if_neg (by omega), if_neg (by omega), shoL_eq]
 rw [es] at hn ⊢
 have hn : n + 1 + (jn [32] kids).length + 1 ≤ 900000 := by
  simp only [List.length_cons, List.length_append, List.length_nil] at hn
  omega
 have el : n + (opn k :: (jn [32] kids ++ [cls k])).length = n + 1 + (jn [32] kids).length + 1 := by
  simp only [List.length_cons, List.length_append, List.length_nil]; omega
 have ec : cs ++ (opn k :: (jn [32] kids ++ [cls k])).flatMap byC = cs ++ byC (opn k) ++ (jn [32] kids).flatMap byC ++ byC (cls k) := by
  simp only [List.flatMap_cons, List.flatMap_append, List.flatMap_nil, List.append_nil, List.append_assoc]
 have em : ((mn + (Nd.mk k ⟨0, 0, []⟩ [] kids ln co).cnt : Nat) : Int) = (mn : Int) + 1 + cntN kids := by
  unfold Nd.cnt; omega
 rw [el, ec, em]
 have ko := m33_82 (a := .ptr 0 0) (.inr rfl) n cs (opn k) (by omega) ((dp : Int) + 1) ((mn : Int) + 1) false
 have IH : LstW W kids := IH
 have kl := IH [32] (.ptr 0 0) (n + 1) (cs ++ byC (opn k)) (dp + 1) (mn + 1) (.inr rfl) (by decide) hok (by omega) (by omega) (by omega)
 rw [show ((mn + 1 + cntN kids : Nat) : Int) = (mn : Int) + 1 + cntN kids by omega, show ((mn + 1 : Nat) : Int) = (mn : Int) + 1 by omega, show ((dp + 1 : Nat) : Int) = (dp : Int) + 1 by omega, show aA (.ptr 0 0) kids.length = .ptr 0 0 by unfold aA; split <;> rfl] at kl
 have kc := m33_82 (a := .ptr 0 0) (.inr rfl) (n + 1 + (jn [32] kids).length) (cs ++ byC (opn k) ++ (jn [32] kids).flatMap byC) (cls k) (by omega) ((dp : Int) + 1) ((mn : Int) + 1 + cntN kids) false
 rw [ndsA_eq] at kl
 generalize (jn [32] kids).flatMap byC = tc at *
 generalize (jn [32] kids).length = tl at *
 generalize cntN kids = kn_ at *
 have hk1 : 0 ≤ k - 3 ∧ k - 3 < 3 := by omega
 ·refine KMW.of W (N := 2) (ab := [.row ⟨82, 5, .leaf, [.ptr 0 0, .own 1 n 1, .int .i64 dp, .int .i64 mn, .bool false], none⟩, .arr 5 1 n cs]) (gv := [.ptr 0 0]) cF_ok eF.g Tryz.func42 rfl rfl rfl rfl (Nat.le_of_ble_eq_true rfl) rfl rfl rfl rfl rfl rfl fun w F opn_ gx lw => ?_
  simp only [encN, Nd.k, Nd.v, Nd.s, Nd.kids, Nd.ln, Nd.co, ndsA_eq]
  rcases hk with hk | hk
  ·repeat' first | refine Go.seq ?_ | refine Go.region rfl ?_ | refine Ops.nil ?_ | refine Ops.val eF rfl rfl Zw (Hop.nilC rfl rfl) ?_ | refine Ops.val eF rfl rfl Zw Zk ?_ | refine Go.condT rfl ?_ | refine Go.condF rfl ?_ | refine Ops.boxR eF rfl rfl Zw rfl rfl rfl rfl ?_ | refine Ops.val eF rfl rfl Zw (Hop.neD rfl rfl rfl rfl eqV0) ?_ | refine Ops.val eF rfl rfl Zw (by first | exact Z1 | exact Z2 | exact Y14 | exact Y15 | exact Z4 | exact Z5 | exact Y36) ?_ | refine Ops.unit eF rfl Zw (Hop.store eF rfl rfl rfl rfl rfl rfl) (ArrKeep.put rfl) ?_ | refine Go.block ?_ | refine Go.skip ?_
   refine Go.meet [(0, .ptr 0 0), (3, .rptr [.int .i64 k, .int .i64 0, .int .i64 0, sA [], sA [], dsl 8 encN kids, .int .i64 ln, .int .i64 co]), (6, .int .i64 (k - 3))] (hq 2 [.row ⟨82, 5, .leaf, [.ptr 0 0, .own 1 (n + 1) 1, .int .i64 ((dp : Int) + 1), .int .i64 ((mn : Int) + 1), .bool false], none⟩, .arr 5 1 (n + 1) (cs ++ byC (opn k))]) ?_ (fun cont => ?_)
   ·repeat' first | refine Go.seq ?_ | refine Go.region rfl ?_ | refine Ops.nil ?_ | refine Ops.val eF rfl rfl Zw (Hop.nilC rfl rfl) ?_ | refine Ops.callMX (v' := .tup []) (ab := [.row ⟨82, 5, .leaf, [.ptr 0 0, .own 1 (n + 1 + tl) 1, .int .i64 ((dp : Int) + 1), .int .i64 ((mn : Int) + 1 + kn_), .bool false], none⟩, .arr 5 1 (n + 1 + tl) (cs ++ byC (opn k) ++ tc)]) eF lw [0, 1] 2 Zw rfl rfl rfl rfl (kl) rfl (wk_eq rfl) rfl Zb Zo rfl rfl rfl rfl rfl rfl rfl ?_ | refine Ops.val eF rfl rfl Zw (by first | exact Z1 | exact Z4 | exact Z5) ?_
    refine Go.meet [(0, .ptr 0 0), (3, .rptr [.int .i64 k, .int .i64 0, .int .i64 0, sA [], sA [], dsl 8 encN kids, .int .i64 ln, .int .i64 co]), (6, .int .i64 (k - 3))] (hq 2 [.row ⟨82, 5, .leaf, [.ptr 0 0, .own 1 (n + 1 + tl + 1) 1, .int .i64 ((dp : Int) + 1), .int .i64 ((mn : Int) + 1 + kn_), .bool false], none⟩, .arr 5 1 (n + 1 + tl + 1) (cs ++ byC (opn k) ++ tc ++ byC (cls k))]) ?_ (fun cont => ?_)
    ·repeat' first | refine Go.region rfl ?_ | refine Ops.nil ?_ | refine Ops.val eF rfl rfl Zw (Hop.nilC rfl rfl) ?_ | refine Ops.val eF rfl rfl Zw (Hop.subE (c := (dp : Int)) rfl rfl rfl (by omega) (by omega)) ?_ | refine Ops.val eF rfl rfl Zw (by first | exact Z1 | exact Z4 | exact Z5) ?_ | refine Ops.unit eF rfl Zw (Hop.store eF rfl rfl rfl rfl rfl rfl) (ArrKeep.put rfl) ?_ | refine Go.unblk ?_ | refine Go.endM rfl rfl ?_ ?_ rfl
     ·rfl
     ·exact ⟨⟨_, rfl, rfl, rfl, rfl, rfl⟩, rfl, trivial⟩
    ·refine Go.anyD hm ?_
     repeat' first | exact Go.toHQ cont rfl eF.g Zt rfl rfl Zg Zl rfl rfl | refine Ops.nil ?_ | refine Ops.val eF rfl rfl Zw (Hop.nilC rfl rfl) ?_ | refine Ops.val eF rfl rfl Zw (Hop.sidx (s := [41, 93, 125]) eF rfl rfl rfl rfl rfl ⟨by omega, by show _ < (3 : Int); omega⟩) ?_ | refine Ops.callM (v' := .nilifc) (ab := [.row ⟨82, 5, .leaf, [.ptr 0 0, .own 1 (n + 1 + tl + 1) 1, .int .i64 ((dp : Int) + 1), .int .i64 ((mn : Int) + 1 + kn_), .bool false], none⟩, .arr 5 1 (n + 1 + tl + 1) (cs ++ byC (opn k) ++ tc ++ byC (cls k))]) eF [0, 1] 2 Zw rfl rfl rfl rfl (kc) rfl (wk_eq rfl) rfl Zb Zo rfl rfl rfl rfl rfl rfl rfl ?_ | refine Ops.val eF rfl rfl Zw (by first | exact Z1 | exact Z4) ?_ | refine Go.anyEnd rfl ?_ | refine Go.any1 rfl rfl ?_ | refine Go.any2 rfl rfl rfl ?_ ?_
   ·refine Go.anyD hm ?_
    repeat' first | exact Go.toHQ cont rfl eF.g Zt rfl rfl Zg Zl rfl rfl | refine Ops.nil ?_ | refine Ops.val eF rfl rfl Zw (Hop.nilC rfl rfl) ?_ | refine Ops.val eF rfl rfl Zw (Hop.sidx (s := [40, 91, 123]) eF rfl rfl rfl rfl rfl ⟨by omega, by show _ < (3 : Int); omega⟩) ?_ | refine Ops.callM (v' := .nilifc) (ab := [.row ⟨82, 5, .leaf, [.ptr 0 0, .own 1 (n + 1) 1, .int .i64 ((dp : Int) + 1), .int .i64 ((mn : Int) + 1), .bool false], none⟩, .arr 5 1 (n + 1) (cs ++ byC (opn k))]) eF [0, 1] 2 Zw rfl rfl rfl rfl (ko) rfl (wk_eq rfl) rfl Zb Zo rfl rfl rfl rfl rfl rfl rfl ?_ | refine Ops.val eF rfl rfl Zw (by first | exact Z1 | exact Z4) ?_ | refine Go.anyEnd rfl ?_ | refine Go.any1 rfl rfl ?_ | refine Go.any2 rfl rfl rfl ?_ ?_
  ·repeat' first | refine Go.seq ?_ | refine Go.region rfl ?_ | refine Ops.nil ?_ | refine Ops.val eF rfl rfl Zw (Hop.nilC rfl rfl) ?_ | refine Ops.val eF rfl rfl Zw Zk ?_ | refine Go.condT rfl ?_ | refine Go.condF rfl ?_ | refine Ops.boxR eF rfl rfl Zw rfl rfl rfl rfl ?_ | refine Ops.val eF rfl rfl Zw (Hop.neD rfl rfl rfl rfl eqV0) ?_ | refine Ops.val eF rfl rfl Zw (by first | exact Z1 | exact Z2 | exact Y14 | exact Y15 | exact Z4 | exact Z5 | exact Y36) ?_ | refine Ops.unit eF rfl Zw (Hop.store eF rfl rfl rfl rfl rfl rfl) (ArrKeep.put rfl) ?_ | refine Go.block ?_ | refine Go.skip ?_
   refine Go.meet [(0, .ptr 0 0), (3, .rptr [.int .i64 k, .int .i64 0, .int .i64 0, sA [], sA [], dsl 8 encN kids, .int .i64 ln, .int .i64 co]), (6, .int .i64 (k - 3))] (hq 2 [.row ⟨82, 5, .leaf, [.ptr 0 0, .own 1 (n + 1) 1, .int .i64 ((dp : Int) + 1), .int .i64 ((mn : Int) + 1), .bool false], none⟩, .arr 5 1 (n + 1) (cs ++ byC (opn k))]) ?_ (fun cont => ?_)
   ·repeat' first | refine Go.seq ?_ | refine Go.region rfl ?_ | refine Ops.nil ?_ | refine Ops.val eF rfl rfl Zw (Hop.nilC rfl rfl) ?_ | refine Ops.callMX (v' := .tup []) (ab := [.row ⟨82, 5, .leaf, [.ptr 0 0, .own 1 (n + 1 + tl) 1, .int .i64 ((dp : Int) + 1), .int .i64 ((mn : Int) + 1 + kn_), .bool false], none⟩, .arr 5 1 (n + 1 + tl) (cs ++ byC (opn k) ++ tc)]) eF lw [0, 1] 2 Zw rfl rfl rfl rfl (kl) rfl (wk_eq rfl) rfl Zb Zo rfl rfl rfl rfl rfl rfl rfl ?_ | refine Ops.val eF rfl rfl Zw (by first | exact Z1 | exact Z4 | exact Z5) ?_
    refine Go.meet [(0, .ptr 0 0), (3, .rptr [.int .i64 k, .int .i64 0, .int .i64 0, sA [], sA [], dsl 8 encN kids, .int .i64 ln, .int .i64 co]), (6, .int .i64 (k - 3))] (hq 2 [.row ⟨82, 5, .leaf, [.ptr 0 0, .own 1 (n + 1 + tl + 1) 1, .int .i64 ((dp : Int) + 1), .int .i64 ((mn : Int) + 1 + kn_), .bool false], none⟩, .arr 5 1 (n + 1 + tl + 1) (cs ++ byC (opn k) ++ tc ++ byC (cls k))]) ?_ (fun cont => ?_)
    ·repeat' first | refine Go.region rfl ?_ | refine Ops.nil ?_ | refine Ops.val eF rfl rfl Zw (Hop.nilC rfl rfl) ?_ | refine Ops.val eF rfl rfl Zw (Hop.subE (c := (dp : Int)) rfl rfl rfl (by omega) (by omega)) ?_ | refine Ops.val eF rfl rfl Zw (by first | exact Z1 | exact Z4 | exact Z5) ?_ | refine Ops.unit eF rfl Zw (Hop.store eF rfl rfl rfl rfl rfl rfl) (ArrKeep.put rfl) ?_ | refine Go.unblk ?_ | refine Go.endM rfl rfl ?_ ?_ rfl
     ·rfl
     ·exact ⟨⟨_, rfl, rfl, rfl, rfl, rfl⟩, rfl, trivial⟩
    ·refine Go.anyD hm ?_
     repeat' first | exact Go.toHQ cont rfl eF.g Zt rfl rfl Zg Zl rfl rfl | refine Ops.nil ?_ | refine Ops.val eF rfl rfl Zw (Hop.nilC rfl rfl) ?_ | refine Ops.val eF rfl rfl Zw (Hop.sidx (s := [41, 93, 125]) eF rfl rfl rfl rfl rfl ⟨by omega, by show _ < (3 : Int); omega⟩) ?_ | refine Ops.callM (v' := .nilifc) (ab := [.row ⟨82, 5, .leaf, [.ptr 0 0, .own 1 (n + 1 + tl + 1) 1, .int .i64 ((dp : Int) + 1), .int .i64 ((mn : Int) + 1 + kn_), .bool false], none⟩, .arr 5 1 (n + 1 + tl + 1) (cs ++ byC (opn k) ++ tc ++ byC (cls k))]) eF [0, 1] 2 Zw rfl rfl rfl rfl (kc) rfl (wk_eq rfl) rfl Zb Zo rfl rfl rfl rfl rfl rfl rfl ?_ | refine Ops.val eF rfl rfl Zw (by first | exact Z1 | exact Z4) ?_ | refine Go.anyEnd rfl ?_ | refine Go.any1 rfl rfl ?_ | refine Go.any2 rfl rfl rfl ?_ ?_
   ·refine Go.anyD hm ?_
    repeat' first | exact Go.toHQ cont rfl eF.g Zt rfl rfl Zg Zl rfl rfl | refine Ops.nil ?_ | refine Ops.val eF rfl rfl Zw (Hop.nilC rfl rfl) ?_ | refine Ops.val eF rfl rfl Zw (Hop.sidx (s := [40, 91, 123]) eF rfl rfl rfl rfl rfl ⟨by omega, by show _ < (3 : Int); omega⟩) ?_ | refine Ops.callM (v' := .nilifc) (ab := [.row ⟨82, 5, .leaf, [.ptr 0 0, .own 1 (n + 1) 1, .int .i64 ((dp : Int) + 1), .int .i64 ((mn : Int) + 1), .bool false], none⟩, .arr 5 1 (n + 1) (cs ++ byC (opn k))]) eF [0, 1] 2 Zw rfl rfl rfl rfl (ko) rfl (wk_eq rfl) rfl Zb Zo rfl rfl rfl rfl rfl rfl rfl ?_ | refine Ops.val eF rfl rfl Zw (by first | exact Z1 | exact Z4) ?_ | refine Go.anyEnd rfl ?_ | refine Go.any1 rfl rfl ?_ | refine Go.any2 rfl rfl rfl ?_ ?_
end Go.Px.Du
end
