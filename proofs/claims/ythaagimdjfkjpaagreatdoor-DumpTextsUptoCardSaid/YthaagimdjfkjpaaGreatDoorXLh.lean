/- Parts of the proof in YthaagimdjfkjpaaGreatDoorXFin: DuI, DuL. -/
import Derived.Test.YthaagimdjfkjpaaGreatDoorXLf
import Derived.Test.YthaagimdjfkjpaaGreatDoorXK4
set_option linter.unusedVariables false
set_option linter.unusedSimpArgs false
section
set_option maxHeartbeats 4000000
set_option maxRecDepth 20000
namespace Go.Px.Du
open Go.Proofs Go.Px.Ds Go.Px.De
attribute [local irreducible] Go.Px.KOk Go.Px.KOkW
def opn (k : Int) : UInt8 := ([40, 91, 123] : Str).getD (k - 3).toNat 0
def cls (k : Int) : UInt8 := ([41, 93, 125] : Str).getD (k - 3).toNat 0
mutual
noncomputable def Nd.sho : Nd → Str
 | .mk k v s kids _ _ => if k = 1 then vtxt v else if k = 2 then s else opn k :: (shoL kids ++ [cls k])
noncomputable def shoL : List Nd → Str
 | [] => []
 | c :: r => c.sho ++ shoT r
noncomputable def shoT : List Nd → Str
 | [] => []
 | c :: r => 32 :: (c.sho ++ shoT r)
end
mutual
def Nd.cnt : Nd → Nat
 | .mk _ _ _ kids _ _ => 1 + cntN kids
def cntN : List Nd → Nat
 | [] => 0
 | c :: r => c.cnt + cntN r
end
def NmP (s : Str) : Prop := s = [116, 120] ∨ s = [101, 110, 100]
mutual
def Nd.ok : Nat → Nd → Prop
 | d, .mk k v s kids _ _ => (k = 1 ∧ VaP v ∧ i64 v.n ∧ v.s.length ≤ 100000 ∧ s = [] ∧ kids = []) ∨ (k = 2 ∧ NmP s ∧ v = ⟨0, 0, []⟩ ∧ kids = []) ∨ ((k = 3 ∨ k = 4) ∧ s = [] ∧ v = ⟨0, 0, []⟩ ∧ d < 50 ∧ okN (d + 1) kids)
def okN : Nat → List Nd → Prop
 | _, [] => True
 | d, c :: r => c.ok d ∧ okN d r
end
theorem Nd.cnt_eq (c : Nd) : c.cnt = 1 + cntN c.kids := by cases c; rfl
theorem okN_at : ∀ {d : Nat} {l : List Nd} {i : Nat}, okN d l → i < l.length → (l.getD i default).ok d
 | d, c :: r, 0, h, _ => h.1
 | d, c :: r, i + 1, h, hi => okN_at (l := r) (i := i) h.2 (by simpa using hi)
theorem cntN_at : ∀ {l : List Nd} {i : Nat}, i < l.length → (l.getD i default).cnt + cntN (l.take i) ≤ cntN l
 | c :: r, 0, _ => by simp [cntN]
 | c :: r, i + 1, h => by
  have := cntN_at (l := r) (i := i) (by simpa using h)
  simp only [cntN, List.take_succ_cons, List.getD_cons_succ]; omega
theorem cntN_app : ∀ a b : List Nd, cntN (a ++ b) = cntN a + cntN b
 | [], b => by simp [cntN]
 | c :: a, b => by
  have := cntN_app a b
  simp only [List.cons_append, cntN, this]; omega
theorem cntN_succ {l : List Nd} {i : Nat} (h : i < l.length) : cntN (l.take (i + 1)) = cntN (l.take i) + (l.getD i default).cnt := by
 rw [take_succ' h, cntN_app]; simp [cntN]
noncomputable def jn (b : Str) : List Nd → Str
 | [] => []
 | c :: r => c.sho ++ r.flatMap fun y => b ++ y.sho
theorem shoT_eq : ∀ r : List Nd, shoT r = r.flatMap fun y => [32] ++ y.sho
 | [] => by simp [shoT]
 | c :: r => by simp [shoT, shoT_eq r]
theorem shoL_eq : ∀ l : List Nd, shoL l = jn [32] l
 | [] => by simp [shoL, jn]
 | c :: r => by simp only [shoL, jn, shoT_eq]
theorem jn_succ {b : Str} {l : List Nd} {i : Nat} (h : i < l.length) : jn b (l.take (i + 1)) = jn b (l.take i) ++ ((if i = 0 then [] else b) ++ (l.getD i default).sho) := by
 cases l with
 | nil => simp at h
 | cons c r =>
  cases i with
  | zero => simp [jn]
  | succ i =>
   have h' : i < r.length := by simpa using h
   simp only [List.take_succ_cons, jn, take_succ' h', List.flatMap_append, List.getD_cons_succ]
   simp
theorem jn_le {b : Str} {l : List Nd} {i : Nat} (h : i ≤ l.length) : (jn b (l.take i)).length ≤ (jn b l).length := by
 cases l with
 | nil => simp
 | cons c r =>
  cases i with
  | zero => simp [jn]
  | succ i =>
   simp only [List.take_succ_cons, jn, List.length_append]
   have : (r.take i).flatMap (fun y => b ++ y.sho) ++ (r.drop i).flatMap (fun y => b ++ y.sho) = r.flatMap fun y => b ++ y.sho := by rw [← List.flatMap_append, List.take_append_drop]
   have h2 := congrArg List.length this
   rw [List.length_append] at h2
   omega
theorem eqV0 : eqv cF 6 58 (.agg [.int .i64 0, .int .i64 0, sA []]) (.agg [.int .i64 0, .int .i64 0, .str []]) = some true := by kernel_rfl
def aA (a : AV) (i : Nat) : AV := if i = 0 then a else .ptr 0 0
def LstW (W : World) (l : List Nd) : Prop := ∀ (b : Str) (a : AV) (n : Nat) (cs : List AV) (dp mn : Nat), (a = .nilptr ∨ a = .ptr 0 0) → b ≠ [] → okN dp l → n + (jn b l).length ≤ 900000 → mn + cntN l ≤ 5000 → dp ≤ 50 →
 KMW cF W 32 [.row 82 [a, .own 1 n 1, .int .i64 dp, .int .i64 mn, .bool false], .arr 5 1 n cs] [.ptr 0 0, ndsA l, sA b] (.tup []) [.row 82 [aA a l.length, .own 1 (n + (jn b l).length) 1, .int .i64 dp, .int .i64 (mn + cntN l : Nat), .bool false], .arr 5 1 (n + (jn b l).length) (cs ++ (jn b l).flatMap byC)]
theorem vtxt_ne (v : Va) : vtxt v ≠ [] := by
 have hi : ∀ n, Lib.itoa n ≠ [] := fun n h => by
  have := congrArg List.length h
  unfold Lib.itoa at this
  split at this
  ·simp at this
  ·rw [Lib.decDigits_length] at this
   have := Lib.nDigits_pos n.toNat
   simp at *; omega
 unfold vtxt
 split
 ·exact hi _
 ·split
  ·cases bd (v.n = 1) <;> decide
  ·split
   ·simp
   ·split
    ·simp
    ·split
     ·simp
     ·split <;> simp
theorem m42a {W : World} (hT : TabW W) (k54 : ∀ s, NmP s → KOk cF 54 [sA s] (.bool true)) (x : Nd) (hx : x.k = 1 ∨ x.k = 2) {a : AV} (ha : a = .nilptr ∨ a = .ptr 0 0) (n : Nat) (cs : List AV) (dp mn : Nat) (hok : x.ok dp) (hn : n + x.sho.length ≤ 900000) (hm0 : mn + x.cnt ≤ 5000) (hd0 : dp ≤ 50) :
  KMW cF W 42 [.row 82 [a, .own 1 n 1, .int .i64 dp, .int .i64 mn, .bool false], .arr 5 1 n cs] [.ptr 0 0, .agg (encN x)] (.tup []) [.row 82 [.ptr 0 0, .own 1 (n + x.sho.length) 1, .int .i64 dp, .int .i64 (mn + x.cnt : Nat), .bool false], .arr 5 1 (n + x.sho.length) (cs ++ x.sho.flatMap byC)] := by
 obtain ⟨k, v, s, kids, ln, co⟩ := x
 unfold Nd.cnt at hm0
 rcases hok with ⟨rfl, hv, hvn, hvs, rfl, rfl⟩ | ⟨rfl, hs, rfl, rfl⟩ | ⟨hk, _⟩
 ·have es : Nd.sho (.mk 1 v [] [] ln co) = vtxt v := by unfold Nd.sho; rw [if_pos rfl]
  rw [es] at hn ⊢
  have kw := m12_82 ha n cs (vtxt v) (vtxt_ne v) (by omega) dp ((mn : Int) + 1) false
  have kv := k53 hT v hv hvn hvs
  rcases ha with rfl | rfl
  ·refine KMW.of W (N := 2) (ab := [.row ⟨82, 5, .leaf, [.nilptr, .own 1 n 1, .int .i64 dp, .int .i64 mn, .bool false], none⟩, .arr 5 1 n cs]) (gv := [.ptr 0 0]) cF_ok eF.g Tryz.func42 rfl rfl rfl rfl (Nat.le_of_ble_eq_true rfl) rfl rfl rfl rfl rfl rfl fun w F opn gx lw => ?_
   simp only [encN, Nd.k, Nd.v, Nd.s, Nd.kids, Nd.ln, Nd.co, ndsA_eq]
   repeat' first | refine Go.seq ?_ | refine Go.region rfl ?_ | refine Ops.nil ?_ | refine Ops.val eF rfl rfl Zw (Hop.nilC rfl rfl) ?_ | refine Ops.val eF rfl rfl Zw Zk ?_ | refine Go.condT rfl ?_ | refine Go.condF rfl ?_ | refine Ops.boxR eF rfl rfl Zw rfl rfl rfl rfl ?_ | refine Ops.callX eF lw rfl rfl Zw rfl rfl rfl rfl kv rfl ?_ | refine Ops.callM (v' := .tup [.int .i64 (vtxt v).length, .nilifc]) (ab := [.row ⟨82, 5, .leaf, [.ptr 0 0, .own 1 (n + (vtxt v).length) 1, .int .i64 dp, .int .i64 ((mn : Int) + 1), .bool false], none⟩, .arr 5 1 (n + (vtxt v).length) (cs ++ (vtxt v).flatMap byC)]) eF [0, 1] 2 Zw rfl rfl rfl rfl (kw) rfl (wk_eq rfl) rfl Zb Zo rfl rfl rfl rfl rfl rfl rfl ?_ | refine Ops.val eF rfl rfl Zw (by first | exact Z1 | exact Z2 | exact Y14 | exact Z4 | exact Z5 | exact Z6) ?_ | refine Ops.unit eF rfl Zw (Hop.store eF rfl rfl rfl rfl rfl rfl) (ArrKeep.put rfl) ?_ | refine Go.block ?_ | refine Go.unblk ?_ | refine Go.skip ?_ | refine Go.endM rfl rfl ?_ ?_ rfl
   ·rfl
   ·exact ⟨⟨_, rfl, rfl, rfl, rfl, rfl⟩, rfl, trivial⟩
  ·refine KMW.of W (N := 2) (ab := [.row ⟨82, 5, .leaf, [.ptr 0 0, .own 1 n 1, .int .i64 dp, .int .i64 mn, .bool false], none⟩, .arr 5 1 n cs]) (gv := [.ptr 0 0]) cF_ok eF.g Tryz.func42 rfl rfl rfl rfl (Nat.le_of_ble_eq_true rfl) rfl rfl rfl rfl rfl rfl fun w F opn gx lw => ?_
   simp only [encN, Nd.k, Nd.v, Nd.s, Nd.kids, Nd.ln, Nd.co, ndsA_eq]
   repeat' first | refine Go.seq ?_ | refine Go.region rfl ?_ | refine Ops.nil ?_ | refine Ops.val eF rfl rfl Zw (Hop.nilC rfl rfl) ?_ | refine Ops.val eF rfl rfl Zw Zk ?_ | refine Go.condT rfl ?_ | refine Go.condF rfl ?_ | refine Ops.boxR eF rfl rfl Zw rfl rfl rfl rfl ?_ | refine Ops.callX eF lw rfl rfl Zw rfl rfl rfl rfl kv rfl ?_ | refine Ops.callM (v' := .tup [.int .i64 (vtxt v).length, .nilifc]) (ab := [.row ⟨82, 5, .leaf, [.ptr 0 0, .own 1 (n + (vtxt v).length) 1, .int .i64 dp, .int .i64 ((mn : Int) + 1), .bool false], none⟩, .arr 5 1 (n + (vtxt v).length) (cs ++ (vtxt v).flatMap byC)]) eF [0, 1] 2 Zw rfl rfl rfl rfl (kw) rfl (wk_eq rfl) rfl Zb Zo rfl rfl rfl rfl rfl rfl rfl ?_ | refine Ops.val eF rfl rfl Zw (by first | exact Z1 | exact Z2 | exact Y14 | exact Z4 | exact Z5 | exact Z6) ?_ | refine Ops.unit eF rfl Zw (Hop.store eF rfl rfl rfl rfl rfl rfl) (ArrKeep.put rfl) ?_ | refine Go.block ?_ | refine Go.unblk ?_ | refine Go.skip ?_ | refine Go.endM rfl rfl ?_ ?_ rfl
   ·rfl
   ·exact ⟨⟨_, rfl, rfl, rfl, rfl, rfl⟩, rfl, trivial⟩
 ·have es : Nd.sho (.mk 2 ⟨0, 0, []⟩ s [] ln co) = s := by unfold Nd.sho; rw [if_neg (by decide), if_pos rfl]
  rw [es] at hn ⊢
  have hs0 : s ≠ [] := by rcases hs with rfl | rfl <;> decide
  have kw := m12_82 ha n cs s hs0 (by omega) dp ((mn : Int) + 1) false
  have ks := k54 s hs
  rcases ha with rfl | rfl
  ·refine KMW.of W (N := 2) (ab := [.row ⟨82, 5, .leaf, [.nilptr, .own 1 n 1, .int .i64 dp, .int .i64 mn, .bool false], none⟩, .arr 5 1 n cs]) (gv := [.ptr 0 0]) cF_ok eF.g Tryz.func42 rfl rfl rfl rfl (Nat.le_of_ble_eq_true rfl) rfl rfl rfl rfl rfl rfl fun w F opn gx lw => ?_
   simp only [encN, Nd.k, Nd.v, Nd.s, Nd.kids, Nd.ln, Nd.co, ndsA_eq]
   repeat' first | refine Go.seq ?_ | refine Go.region rfl ?_ | refine Ops.nil ?_ | refine Ops.val eF rfl rfl Zw (Hop.nilC rfl rfl) ?_ | refine Ops.val eF rfl rfl Zw Zk ?_ | refine Go.condT rfl ?_ | refine Go.condF rfl ?_ | refine Ops.boxR eF rfl rfl Zw rfl rfl rfl rfl ?_ | refine Ops.val eF rfl rfl Zw (Hop.neD rfl rfl rfl rfl eqV0) ?_ | refine Ops.val eF rfl rfl Zw (by first | exact Z1 | exact Z2 | exact Y14 | exact Z4 | exact Z5 | exact Z6 | exact Y36) ?_ | refine Ops.call eF rfl rfl Zw rfl rfl rfl rfl (ks) rfl ?_ | refine Ops.unit eF rfl Zw (Hop.store eF rfl rfl rfl rfl rfl rfl) (ArrKeep.put rfl) ?_ | refine Go.block ?_ | refine Go.skip ?_
   refine Go.anyD hm ?_
   repeat' first | refine Ops.nil ?_ | refine Ops.val eF rfl rfl Zw (Hop.nilC rfl rfl) ?_ | refine Ops.callM (v' := .tup [.int .i64 s.length, .nilifc]) (ab := [.row ⟨82, 5, .leaf, [.ptr 0 0, .own 1 (n + s.length) 1, .int .i64 dp, .int .i64 ((mn : Int) + 1), .bool false], none⟩, .arr 5 1 (n + s.length) (cs ++ s.flatMap byC)]) eF [0, 1] 2 Zw rfl rfl rfl rfl (kw) rfl (wk_eq rfl) rfl Zb Zo rfl rfl rfl rfl rfl rfl rfl ?_ | refine Ops.val eF rfl rfl Zw (by first | exact Z1 | exact Z4 | exact Z5) ?_ | refine Go.unblk ?_ | refine Go.endM rfl rfl ?_ ?_ rfl | refine Go.anyEnd rfl ?_ | refine Go.any1 rfl rfl ?_ | refine Go.any2 rfl rfl rfl ?_ ?_
   all_goals first | rfl | exact ⟨⟨_, rfl, rfl, rfl, rfl, rfl⟩, rfl, trivial⟩
  ·refine KMW.of W (N := 2) (ab := [.row ⟨82, 5, .leaf, [.ptr 0 0, .own 1 n 1, .int .i64 dp, .int .i64 mn, .bool false], none⟩, .arr 5 1 n cs]) (gv := [.ptr 0 0]) cF_ok eF.g Tryz.func42 rfl rfl rfl rfl (Nat.le_of_ble_eq_true rfl) rfl rfl rfl rfl rfl rfl fun w F opn gx lw => ?_
   simp only [encN, Nd.k, Nd.v, Nd.s, Nd.kids, Nd.ln, Nd.co, ndsA_eq]
   repeat' first | refine Go.seq ?_ | refine Go.region rfl ?_ | refine Ops.nil ?_ | refine Ops.val eF rfl rfl Zw (Hop.nilC rfl rfl) ?_ | refine Ops.val eF rfl rfl Zw Zk ?_ | refine Go.condT rfl ?_ | refine Go.condF rfl ?_ | refine Ops.boxR eF rfl rfl Zw rfl rfl rfl rfl ?_ | refine Ops.val eF rfl rfl Zw (Hop.neD rfl rfl rfl rfl eqV0) ?_ | refine Ops.val eF rfl rfl Zw (by first | exact Z1 | exact Z2 | exact Y14 | exact Z4 | exact Z5 | exact Z6 | exact Y36) ?_ | refine Ops.call eF rfl rfl Zw rfl rfl rfl rfl (ks) rfl ?_ | refine Ops.unit eF rfl Zw (Hop.store eF rfl rfl rfl rfl rfl rfl) (ArrKeep.put rfl) ?_ | refine Go.block ?_ | refine Go.skip ?_
   refine Go.anyD hm ?_
   repeat' first | refine Ops.nil ?_ | refine Ops.val eF rfl rfl Zw (Hop.nilC rfl rfl) ?_ | refine Ops.callM (v' := .tup [.int .i64 s.length, .nilifc]) (ab := [.row ⟨82, 5, .leaf, [.ptr 0 0, .own 1 (n + s.length) 1, .int .i64 dp, .int .i64 ((mn : Int) + 1), .bool false], none⟩, .arr 5 1 (n + s.length) (cs ++ s.flatMap byC)]) eF [0, 1] 2 Zw rfl rfl rfl rfl (kw) rfl (wk_eq rfl) rfl Zb Zo rfl rfl rfl rfl rfl rfl rfl ?_ | refine Ops.val eF rfl rfl Zw (by first | exact Z1 | exact Z4 | exact Z5) ?_ | refine Go.unblk ?_ | refine Go.endM rfl rfl ?_ ?_ rfl | refine Go.anyEnd rfl ?_ | refine Go.any1 rfl rfl ?_ | refine Go.any2 rfl rfl rfl ?_ ?_
   all_goals first | rfl | exact ⟨⟨_, rfl, rfl, rfl, rfl, rfl⟩, rfl, trivial⟩
 ·have hx : k = 1 ∨ k = 2 := hx
  omega
end Go.Px.Du
end
section
namespace Go.Px.Du
open Go.Proofs Go.Px.Ds Go.Px.De
def xs95 : List (FuncId × XK) := [(95, .idx)]
theorem xs95Ok : XsOk Tryz.prog xs95 := ⟨⟨Tryz.f95, Tryz.func95, by kernel_rfl, by kernel_rfl, by kernel_rfl, by kernel_rfl, trivial⟩, trivial⟩
set_option maxRecDepth 1000000 in
theorem ran54a : answers (app cF drawA 100000 (extT xs95) 80 (.f 54) [.str [116, 120]] h0) true = true := by kernel_rfl
set_option maxRecDepth 1000000 in
theorem ran54b : answers (app cF drawA 100000 (extT xs95) 80 (.f 54) [.str [101, 110, 100]] h0) true = true := by kernel_rfl
set_option maxRecDepth 1000000 in
theorem ran59a : answers (app cF drawA 100000 (extT xs95) 80 (.f 59) [.str [116, 120]] h0) true = true := by kernel_rfl
set_option maxRecDepth 1000000 in
theorem ran59b : answers (app cF drawA 100000 (extT xs95) 80 (.f 59) [.str [101, 110, 100]] h0) true = true := by kernel_rfl
theorem k54 (s : Str) (h : NmP s) : KOk cF 54 [sA s] (.bool true) := by
 rcases h with rfl | rfl
 ·exact KOk.run cF_ok kn0 hm eF.g (extT_ok xs95Ok) (answers_ok ran54a) rfl
 ·exact KOk.run cF_ok kn0 hm eF.g (extT_ok xs95Ok) (answers_ok ran54b) rfl
theorem k59 (s : Str) (h : NmP s) : KOk cF 59 [sA s] (.bool true) := by
 rcases h with rfl | rfl
 ·exact KOk.run cF_ok kn0 hm eF.g (extT_ok xs95Ok) (answers_ok ran59a) rfl
 ·exact KOk.run cF_ok kn0 hm eF.g (extT_ok xs95Ok) (answers_ok ran59b) rfl
end Go.Px.Du
end
