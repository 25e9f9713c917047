/- Parts of the proof in YthaagimdjfkjpaaGreatDoorXFin: DuK. -/
import Derived.Test.YthaagimdjfkjpaaGreatDoorXLh
import Derived.Test.YthaagimdjfkjpaaGreatDoorXLi
import Derived.Test.YthaagimdjfkjpaaGreatDoorXLj
import Derived.Test.YthaagimdjfkjpaaGreatDoorXK4
set_option linter.unusedVariables false
set_option linter.unusedSimpArgs false
section
set_option maxHeartbeats 4000000
set_option maxRecDepth 20000
namespace Go.Px.Du
open Go.Proofs Go.Px.Ds Go.Px.De
attribute [local irreducible] Go.Px.KOk Go.Px.KOkW
theorem m42 {W : World} (hT : TabW W) (x : Nd) (IH : LstW W x.kids) {a : AV} (ha : a = .nilptr ∨ a = .ptr 0 0) (n : Nat) (cs : List AV) (dp mn : Nat) (hok : x.ok dp) (hn : n + x.sho.length ≤ 900000) (hm0 : mn + x.cnt ≤ 5000) (hd0 : dp ≤ 50) :
  KMW cF W 42 [.row 82 [a, .own 1 n 1, .int .i64 dp, .int .i64 mn, .bool false], .arr 5 1 n cs] [.ptr 0 0, .agg (encN x)] (.tup []) [.row 82 [.ptr 0 0, .own 1 (n + x.sho.length) 1, .int .i64 dp, .int .i64 (mn + x.cnt : Nat), .bool false], .arr 5 1 (n + x.sho.length) (cs ++ x.sho.flatMap byC)] := by
 by_cases hx : x.k = 1 ∨ x.k = 2
 ·exact m42a hT k54 x hx ha n cs dp mn hok hn hm0 hd0
 ·have h2 : x.k ≠ 1 ∧ x.k ≠ 2 := ⟨fun e => hx (.inl e), fun e => hx (.inr e)⟩
  rcases ha with rfl | rfl
  ·exact m42b0 hT k54 x IH h2 n cs dp mn hok hn hm0 hd0
  ·exact m42b1 hT k54 x IH h2 n cs dp mn hok hn hm0 hd0
theorem m32 {W : World} (hT : TabW W) : ∀ (N : Nat) (l : List Nd), cntN l < N → LstW W l := by
 intro N
 induction N with
 | zero => intro l h; omega
 | succ N IH =>
 intro l hN b a n cs dp mn ha hb hok hn hm0 hd
 rw [ndsA_eq]
 have hlen : ∀ l : List Nd, l.length ≤ cntN l := by
  intro l
  induction l with
  | nil => exact Nat.le_refl _
  | cons c r ih => have := c.cnt_eq; simp only [cntN, List.length_cons]; omega
 have hll := hlen l
 rcases ha with rfl | rfl
 ·refine KMW.of W (N := 2) (ab := [.row ⟨82, 5, .leaf, [.nilptr, .own 1 n 1, .int .i64 dp, .int .i64 mn, .bool false], none⟩, .arr 5 1 n cs]) (gv := [.ptr 0 0]) cF_ok eF.g Tryz.func32 rfl rfl rfl rfl (Nat.le_of_ble_eq_true rfl) rfl rfl rfl (by unfold aA; split <;> rfl) rfl rfl fun w F opn_ gx lw => ?_
  repeat' first | refine Go.seq ?_ | refine Go.region rfl ?_ | refine Ops.nil ?_ | refine Ops.val eF rfl rfl Zw (by first | exact Z1 | exact Z6) ?_ | refine Go.block ?_
  refine Go.loop (fun i : Nat => [(0, .ptr 0 0), (2, sA b), (8, dsl 8 encN l), (9, .int .i64 l.length), (10, .int .i64 i)]) (fun i => match i with | 0 => hq 2 [.row ⟨82, 5, .leaf, [.nilptr, .own 1 n 1, .int .i64 dp, .int .i64 mn, .bool false], none⟩, .arr 5 1 n cs] | i + 1 => hq 2 [.row ⟨82, 5, .leaf, [.ptr 0 0, .own 1 (n + (jn b (l.take (i + 1))).length) 1, .int .i64 dp, .int .i64 ((mn + cntN (l.take (i + 1)) : Nat) : Int), .bool false], none⟩, .arr 5 1 (n + (jn b (l.take (i + 1))).length) (cs ++ (jn b (l.take (i + 1))).flatMap byC)]) (fun i => i ≤ l.length) (fun i => l.length - i) 0 (Nat.zero_le _) Zt rfl (fun i hi ih => ?_)
  by_cases c0 : (i : Int) < (l.length : Int)
  ·have hlt : i < l.length := by omega
   have hc := cntN_at hlt
   have hs := cntN_succ hlt
   have hle := jn_le (b := b) (l := l) (i := i + 1) (by omega)
   have hj := jn_succ (b := b) hlt
   rw [hj, List.length_append, List.length_append] at hle
   have g := ih (i + 1) (by omega) (by omega)
   simp only [hj, hs, List.length_append, List.flatMap_append, ← Nat.add_assoc, ← List.append_assoc] at g
   have kk : LstW _ (l.getD i default).kids := IH (l.getD i default).kids (by have := (l.getD i default).cnt_eq; omega)
   cases i with
   | zero =>
    have km := m42 hT (l.getD 0 default) kk (.inl rfl) n cs dp mn (okN_at hok hlt) (by rw [if_pos rfl] at hle; simp only [List.length_nil] at hle; omega) (by omega) hd
    simp only [if_pos, List.length_nil, List.flatMap_nil, List.take_zero, jn, cntN, Nat.add_zero, Nat.zero_add, List.append_nil] at g
    repeat' first | refine Go.seq ?_ | refine Go.region rfl ?_ | refine Ops.nil ?_ | refine Ops.val eF rfl rfl Zw Zk ?_ | refine Go.condT rfl ?_ | refine Go.condF rfl ?_ | refine Ops.val eF rfl rfl Zw (Hop.nilC rfl rfl) ?_ | refine Ops.callMX (v' := .tup []) (ab := [.row ⟨82, 5, .leaf, [.ptr 0 0, .own 1 (n + (l.getD 0 default).sho.length) 1, .int .i64 dp, .int .i64 ((mn + (l.getD 0 default).cnt : Nat) : Int), .bool false], none⟩, .arr 5 1 (n + (l.getD 0 default).sho.length) (cs ++ (l.getD 0 default).sho.flatMap byC)]) eF lw [0, 1] 3 Zw rfl rfl rfl rfl (km) rfl (wk_eq rfl) rfl Zb Zo rfl rfl rfl rfl rfl rfl rfl ?_ | refine Ops.val eF rfl rfl Zw (by first | exact Z1 | exact Z3 | exact Y14 | exact Z4 | exact Y24 | exact Z5) ?_ | refine Ops.rowAt eF 2 rfl rfl Zw rfl (Hop.alloc eF rfl rfl rfl) ?_ | refine Ops.unit eF rfl Zw (Hop.store eF rfl rfl rfl rfl rfl rfl) (ArrKeep.put rfl) ?_ | refine Go.condTt rfl Za ?_ | refine Go.block ?_ | refine Go.unblk ?_ | refine Go.skip ?_
    all_goals try simp only [Int.toNat_natCast] at *
    exact Go.toQ g rfl eF.g Zt rfl rfl Zg Zl rfl rfl
   | succ i =>
    have e0 : ¬ (i + 1 = 0) := by omega
    rw [if_neg e0] at hle
    simp only [if_neg e0] at g
    have c1 : (0 : Int) < ((i + 1 : Nat) : Int) := by omega
    have kb := m12_82 (a := .ptr 0 0) (.inr rfl) (n + (jn b (l.take (i + 1))).length) (cs ++ (jn b (l.take (i + 1))).flatMap byC) b hb (by omega) dp ((mn + cntN (l.take (i + 1)) : Nat) : Int) false
    have km := m42 hT (l.getD (i + 1) default) kk (a := .ptr 0 0) (.inr rfl) ((n + (jn b (l.take (i + 1))).length) + b.length) ((cs ++ (jn b (l.take (i + 1))).flatMap byC) ++ b.flatMap byC) dp (mn + cntN (l.take (i + 1))) (okN_at hok hlt) (by omega) (by omega) hd
    show Go _ _ _ _ _ (hq 2 [.row ⟨82, 5, .leaf, [.ptr 0 0, .own 1 (n + (jn b (l.take (i + 1))).length) 1, .int .i64 dp, .int .i64 ((mn + cntN (l.take (i + 1)) : Nat) : Int), .bool false], none⟩, .arr 5 1 (n + (jn b (l.take (i + 1))).length) (cs ++ (jn b (l.take (i + 1))).flatMap byC)]) _ _
    generalize (jn b (l.take (i + 1))).length = tl at *
    generalize (jn b (l.take (i + 1))).flatMap byC = tc at *
    generalize cntN (l.take (i + 1)) = tn at *
    repeat' first | refine Go.seq ?_ | refine Go.region rfl ?_ | refine Ops.nil ?_ | refine Ops.val eF rfl rfl Zw Zk ?_ | refine Go.condT rfl ?_ | refine Go.condF rfl ?_ | refine Ops.val eF rfl rfl Zw (Hop.nilC rfl rfl) ?_ | refine Ops.callMX (v' := .tup []) (ab := [.row ⟨82, 5, .leaf, [.ptr 0 0, .own 1 (n + tl + b.length + (l.getD (i + 1) default).sho.length) 1, .int .i64 dp, .int .i64 ((mn + tn + (l.getD (i + 1) default).cnt : Nat) : Int), .bool false], none⟩, .arr 5 1 (n + tl + b.length + (l.getD (i + 1) default).sho.length) (cs ++ tc ++ b.flatMap byC ++ (l.getD (i + 1) default).sho.flatMap byC)]) eF lw [0, 1] 3 Zw rfl rfl rfl rfl (km) rfl (wk_eq rfl) rfl Zb Zo rfl rfl rfl rfl rfl rfl rfl ?_ | refine Ops.callM (v' := .tup [.int .i64 b.length, .nilifc]) (ab := [.row ⟨82, 5, .leaf, [.ptr 0 0, .own 1 (n + tl + b.length) 1, .int .i64 dp, .int .i64 ((mn + tn : Nat) : Int), .bool false], none⟩, .arr 5 1 (n + tl + b.length) (cs ++ tc ++ b.flatMap byC)]) eF [0, 1] 3 Zw rfl rfl rfl rfl (kb) rfl (wk_eq rfl) rfl Zb Zo rfl rfl rfl rfl rfl rfl rfl ?_ | refine Ops.val eF rfl rfl Zw (by first | exact Z1 | exact Z3 | exact Y14 | exact Z4 | exact Y24 | exact Z5) ?_ | refine Ops.rowAt eF 2 rfl rfl Zw rfl (Hop.alloc eF rfl rfl rfl) ?_ | refine Ops.unit eF rfl Zw (Hop.store eF rfl rfl rfl rfl rfl rfl) (ArrKeep.put rfl) ?_ | refine Go.condTt rfl Za ?_ | refine Go.block ?_ | refine Go.unblk ?_ | refine Go.skip ?_
    all_goals try simp only [Int.toNat_natCast] at *
    exact Go.toQ g rfl eF.g Zt rfl rfl Zg Zl rfl rfl
  ·have ei : i = l.length := by omega
   cases i with
   | zero =>
    have el : l = [] := List.length_eq_zero_iff.1 ei.symm
    subst el
    repeat' first | refine Go.seq ?_ | refine Go.region rfl ?_ | refine Ops.nil ?_ | refine Ops.val eF rfl rfl Zw Zk ?_ | refine Go.condT rfl ?_ | refine Go.condF rfl ?_ | refine Go.exit rfl ?_ | refine Go.endM rfl rfl ?_ ?_ rfl
    all_goals first | rfl | exact ⟨⟨_, rfl, rfl, rfl, rfl, rfl⟩, rfl, trivial⟩ | exact ⟨⟨_, rfl, rfl, rfl, rfl, rfl⟩, by simp [jn]; rfl, trivial⟩
   | succ i =>
    show Go _ _ _ _ _ (hq 2 [.row ⟨82, 5, .leaf, [.ptr 0 0, .own 1 (n + (jn b (l.take (i + 1))).length) 1, .int .i64 dp, .int .i64 ((mn + cntN (l.take (i + 1)) : Nat) : Int), .bool false], none⟩, .arr 5 1 (n + (jn b (l.take (i + 1))).length) (cs ++ (jn b (l.take (i + 1))).flatMap byC)]) _ _
    have e1 : l.take (i + 1) = l := by rw [ei, List.take_length]
    have e2 : aA .nilptr l.length = .ptr 0 0 := if_neg (by omega)
    rw [e1, e2]
    repeat' first | refine Go.seq ?_ | refine Go.region rfl ?_ | refine Ops.nil ?_ | refine Ops.val eF rfl rfl Zw Zk ?_ | refine Go.condT rfl ?_ | refine Go.condF rfl ?_ | refine Go.exit rfl ?_ | refine Go.endM rfl rfl ?_ ?_ rfl
    all_goals first | rfl | exact ⟨⟨_, rfl, rfl, rfl, rfl, rfl⟩, rfl, trivial⟩
 ·refine KMW.of W (N := 2) (ab := [.row ⟨82, 5, .leaf, [.ptr 0 0, .own 1 n 1, .int .i64 dp, .int .i64 mn, .bool false], none⟩, .arr 5 1 n cs]) (gv := [.ptr 0 0]) cF_ok eF.g Tryz.func32 rfl rfl rfl rfl (Nat.le_of_ble_eq_true rfl) rfl rfl rfl (by unfold aA; split <;> rfl) rfl rfl fun w F opn_ gx lw => ?_
  repeat' first | refine Go.seq ?_ | refine Go.region rfl ?_ | refine Ops.nil ?_ | refine Ops.val eF rfl rfl Zw (by first | exact Z1 | exact Z6) ?_ | refine Go.block ?_
  refine Go.loop (fun i : Nat => [(0, .ptr 0 0), (2, sA b), (8, dsl 8 encN l), (9, .int .i64 l.length), (10, .int .i64 i)]) (fun i => match i with | 0 => hq 2 [.row ⟨82, 5, .leaf, [.ptr 0 0, .own 1 n 1, .int .i64 dp, .int .i64 mn, .bool false], none⟩, .arr 5 1 n cs] | i + 1 => hq 2 [.row ⟨82, 5, .leaf, [.ptr 0 0, .own 1 (n + (jn b (l.take (i + 1))).length) 1, .int .i64 dp, .int .i64 ((mn + cntN (l.take (i + 1)) : Nat) : Int), .bool false], none⟩, .arr 5 1 (n + (jn b (l.take (i + 1))).length) (cs ++ (jn b (l.take (i + 1))).flatMap byC)]) (fun i => i ≤ l.length) (fun i => l.length - i) 0 (Nat.zero_le _) Zt rfl (fun i hi ih => ?_)
  by_cases c0 : (i : Int) < (l.length : Int)
  ·have hlt : i < l.length := by omega
   have hc := cntN_at hlt
   have hs := cntN_succ hlt
   have hle := jn_le (b := b) (l := l) (i := i + 1) (by omega)
   have hj := jn_succ (b := b) hlt
   rw [hj, List.length_append, List.length_append] at hle
   have g := ih (i + 1) (by omega) (by omega)
   simp only [hj, hs, List.length_append, List.flatMap_append, ← Nat.add_assoc, ← List.append_assoc] at g
   have kk : LstW _ (l.getD i default).kids := IH (l.getD i default).kids (by have := (l.getD i default).cnt_eq; omega)
   cases i with
   | zero =>
    have km := m42 hT (l.getD 0 default) kk (.inr rfl) n cs dp mn (okN_at hok hlt) (by rw [if_pos rfl] at hle; simp only [List.length_nil] at hle; omega) (by omega) hd
    simp only [if_pos, List.length_nil, List.flatMap_nil, List.take_zero, jn, cntN, Nat.add_zero, Nat.zero_add, List.append_nil] at g
    repeat' first | refine Go.seq ?_ | refine Go.region rfl ?_ | refine Ops.nil ?_ | refine Ops.val eF rfl rfl Zw Zk ?_ | refine Go.condT rfl ?_ | refine Go.condF rfl ?_ | refine Ops.val eF rfl rfl Zw (Hop.nilC rfl rfl) ?_ | refine Ops.callMX (v' := .tup []) (ab := [.row ⟨82, 5, .leaf, [.ptr 0 0, .own 1 (n + (l.getD 0 default).sho.length) 1, .int .i64 dp, .int .i64 ((mn + (l.getD 0 default).cnt : Nat) : Int), .bool false], none⟩, .arr 5 1 (n + (l.getD 0 default).sho.length) (cs ++ (l.getD 0 default).sho.flatMap byC)]) eF lw [0, 1] 3 Zw rfl rfl rfl rfl (km) rfl (wk_eq rfl) rfl Zb Zo rfl rfl rfl rfl rfl rfl rfl ?_ | refine Ops.val eF rfl rfl Zw (by first | exact Z1 | exact Z3 | exact Y14 | exact Z4 | exact Y24 | exact Z5) ?_ | refine Ops.rowAt eF 2 rfl rfl Zw rfl (Hop.alloc eF rfl rfl rfl) ?_ | refine Ops.unit eF rfl Zw (Hop.store eF rfl rfl rfl rfl rfl rfl) (ArrKeep.put rfl) ?_ | refine Go.condTt rfl Za ?_ | refine Go.block ?_ | refine Go.unblk ?_ | refine Go.skip ?_
    all_goals try simp only [Int.toNat_natCast] at *
    exact Go.toQ g rfl eF.g Zt rfl rfl Zg Zl rfl rfl
   | succ i =>
    have e0 : ¬ (i + 1 = 0) := by omega
    rw [if_neg e0] at hle
    simp only [if_neg e0] at g
    have c1 : (0 : Int) < ((i + 1 : Nat) : Int) := by omega
    have kb := m12_82 (a := .ptr 0 0) (.inr rfl) (n + (jn b (l.take (i + 1))).length) (cs ++ (jn b (l.take (i + 1))).flatMap byC) b hb (by omega) dp ((mn + cntN (l.take (i + 1)) : Nat) : Int) false
    have km := m42 hT (l.getD (i + 1) default) kk (a := .ptr 0 0) (.inr rfl) ((n + (jn b (l.take (i + 1))).length) + b.length) ((cs ++ (jn b (l.take (i + 1))).flatMap byC) ++ b.flatMap byC) dp (mn + cntN (l.take (i + 1))) (okN_at hok hlt) (by omega) (by omega) hd
    show Go _ _ _ _ _ (hq 2 [.row ⟨82, 5, .leaf, [.ptr 0 0, .own 1 (n + (jn b (l.take (i + 1))).length) 1, .int .i64 dp, .int .i64 ((mn + cntN (l.take (i + 1)) : Nat) : Int), .bool false], none⟩, .arr 5 1 (n + (jn b (l.take (i + 1))).length) (cs ++ (jn b (l.take (i + 1))).flatMap byC)]) _ _
    generalize (jn b (l.take (i + 1))).length = tl at *
    generalize (jn b (l.take (i + 1))).flatMap byC = tc at *
    generalize cntN (l.take (i + 1)) = tn at *
    repeat' first | refine Go.seq ?_ | refine Go.region rfl ?_ | refine Ops.nil ?_ | refine Ops.val eF rfl rfl Zw Zk ?_ | refine Go.condT rfl ?_ | refine Go.condF rfl ?_ | refine Ops.val eF rfl rfl Zw (Hop.nilC rfl rfl) ?_ | refine Ops.callMX (v' := .tup []) (ab := [.row ⟨82, 5, .leaf, [.ptr 0 0, .own 1 (n + tl + b.length + (l.getD (i + 1) default).sho.length) 1, .int .i64 dp, .int .i64 ((mn + tn + (l.getD (i + 1) default).cnt : Nat) : Int), .bool false], none⟩, .arr 5 1 (n + tl + b.length + (l.getD (i + 1) default).sho.length) (cs ++ tc ++ b.flatMap byC ++ (l.getD (i + 1) default).sho.flatMap byC)]) eF lw [0, 1] 3 Zw rfl rfl rfl rfl (km) rfl (wk_eq rfl) rfl Zb Zo rfl rfl rfl rfl rfl rfl rfl ?_ | refine Ops.callM (v' := .tup [.int .i64 b.length, .nilifc]) (ab := [.row ⟨82, 5, .leaf, [.ptr 0 0, .own 1 (n + tl + b.length) 1, .int .i64 dp, .int .i64 ((mn + tn : Nat) : Int), .bool false], none⟩, .arr 5 1 (n + tl + b.length) (cs ++ tc ++ b.flatMap byC)]) eF [0, 1] 3 Zw rfl rfl rfl rfl (kb) rfl (wk_eq rfl) rfl Zb Zo rfl rfl rfl rfl rfl rfl rfl ?_ | refine Ops.val eF rfl rfl Zw (by first | exact Z1 | exact Z3 | exact Y14 | exact Z4 | exact Y24 | exact Z5) ?_ | refine Ops.rowAt eF 2 rfl rfl Zw rfl (Hop.alloc eF rfl rfl rfl) ?_ | refine Ops.unit eF rfl Zw (Hop.store eF rfl rfl rfl rfl rfl rfl) (ArrKeep.put rfl) ?_ | refine Go.condTt rfl Za ?_ | refine Go.block ?_ | refine Go.unblk ?_ | refine Go.skip ?_
    all_goals try simp only [Int.toNat_natCast] at *
    exact Go.toQ g rfl eF.g Zt rfl rfl Zg Zl rfl rfl
  ·have ei : i = l.length := by omega
   cases i with
   | zero =>
    have el : l = [] := List.length_eq_zero_iff.1 ei.symm
    subst el
    repeat' first | refine Go.seq ?_ | refine Go.region rfl ?_ | refine Ops.nil ?_ | refine Ops.val eF rfl rfl Zw Zk ?_ | refine Go.condT rfl ?_ | refine Go.condF rfl ?_ | refine Go.exit rfl ?_ | refine Go.endM rfl rfl ?_ ?_ rfl
    all_goals first | rfl | exact ⟨⟨_, rfl, rfl, rfl, rfl, rfl⟩, rfl, trivial⟩ | exact ⟨⟨_, rfl, rfl, rfl, rfl, rfl⟩, by simp [jn]; rfl, trivial⟩
   | succ i =>
    show Go _ _ _ _ _ (hq 2 [.row ⟨82, 5, .leaf, [.ptr 0 0, .own 1 (n + (jn b (l.take (i + 1))).length) 1, .int .i64 dp, .int .i64 ((mn + cntN (l.take (i + 1)) : Nat) : Int), .bool false], none⟩, .arr 5 1 (n + (jn b (l.take (i + 1))).length) (cs ++ (jn b (l.take (i + 1))).flatMap byC)]) _ _
    have e1 : l.take (i + 1) = l := by rw [ei, List.take_length]
    have e2 : aA (.ptr 0 0) l.length = .ptr 0 0 := if_neg (by omega)
    rw [e1, e2]
    repeat' first | refine Go.seq ?_ | refine Go.region rfl ?_ | refine Ops.nil ?_ | refine Ops.val eF rfl rfl Zw Zk ?_ | refine Go.condT rfl ?_ | refine Go.condF rfl ?_ | refine Go.exit rfl ?_ | refine Go.endM rfl rfl ?_ ?_ rfl
    all_goals first | rfl | exact ⟨⟨_, rfl, rfl, rfl, rfl, rfl⟩, rfl, trivial⟩
theorem k23 {W : World} (hT : TabW W) (l : List Nd) (h1 : cntN l ≤ 5000) (hok : okN 0 l) (hn : (jn [10] l).length ≤ 800000) (hl : l ≠ []) : KOkW cF W 23 [ndsA l] (.tup [sA (jn [10] l ++ [10]), .int .i64 0]) := by
 have h0 : 0 < l.length := List.length_pos_iff.2 hl
 have kl := m32 hT (cntN l + 1) l (by omega) [10] .nilptr 0 [] 0 0 (.inl rfl) (by decide) hok (by omega) (by omega) (by omega)
 rw [show aA .nilptr l.length = .ptr 0 0 from if_neg (by omega), Nat.zero_add, Nat.zero_add, List.nil_append] at kl
 have kb := m33_82 (a := .ptr 0 0) (.inr rfl) (jn [10] l).length ((jn [10] l).flatMap byC) 10 (by omega) 0 (cntN l) false
 have ks := m13_82 (jn [10] l ++ [10]) (by simp) (by rw [List.length_append]; show _ + 1 ≤ _; omega) 0 (cntN l) false
 have e1 : (jn [10] l ++ [10]).length = (jn [10] l).length + 1 := by rw [List.length_append]; rfl
 have e2 : (jn [10] l ++ [10]).flatMap byC = (jn [10] l).flatMap byC ++ byC 10 := by rw [List.flatMap_append]; simp
 rw [e1, e2] at ks
 rw [ndsA_eq] at *
 refine KOkW.of W cF_ok eF.g Tryz.func23 rfl (Nat.le_of_ble_eq_true rfl) fun w F hE => ?_
 have lw : LW W ⟨cF, w, F, fun _ => False, none, none, [], [], []⟩ := LW.none hE
 repeat' first | refine Go.seq ?_ | refine Go.region rfl ?_ | refine Ops.nil ?_ | refine Ops.change (Chg.tokCellJ 1 0 1 5 1 5 rfl (by decide) rfl rfl rfl rfl) ?_ | refine Ops.val eF rfl rfl Zw (Hop.nilC rfl rfl) ?_ | refine Ops.val eF rfl rfl Zw Zk ?_ | refine Go.condT rfl ?_ | refine Go.condF rfl ?_ | refine Ops.callMX (v' := .tup []) (ab := [.row ⟨82, 5, .leaf, [.ptr 0 0, .own 1 (jn [10] l).length 1, .int .i64 0, .int .i64 (cntN l), .bool false], none⟩, .arr 5 1 (jn [10] l).length ((jn [10] l).flatMap byC)]) eF lw [0, 1] 2 Zw rfl rfl rfl rfl (kl) rfl (wk_eq rfl) rfl Zb Zo rfl rfl rfl rfl rfl rfl rfl ?_ | refine Ops.callM (v' := .nilifc) (ab := [.row ⟨82, 5, .leaf, [.ptr 0 0, .own 1 ((jn [10] l).length + 1) 1, .int .i64 0, .int .i64 (cntN l), .bool false], none⟩, .arr 5 1 ((jn [10] l).length + 1) ((jn [10] l).flatMap byC ++ byC 10)]) eF [0, 1] 2 Zw rfl rfl rfl rfl (kb) rfl (wk_eq rfl) rfl Zb Zo rfl rfl rfl rfl rfl rfl rfl ?_ | refine Ops.callM (v' := sA (jn [10] l ++ [10])) (ab := [.row ⟨82, 5, .leaf, [.ptr 0 0, .own 1 ((jn [10] l).length + 1) 1, .int .i64 0, .int .i64 (cntN l), .bool false], none⟩, .none]) eF [0, 1] 2 Zw rfl rfl rfl rfl (ks) rfl (wk_eq rfl) rfl Zb Zo rfl rfl rfl rfl rfl rfl rfl ?_ | refine Ops.val eF rfl rfl Zw (by first | exact Z1 | exact Z4 | exact Z5 | exact Z6 | exact Y36) ?_ | refine Ops.rowAt eF 0 rfl rfl Zw rfl (Hop.boxC rfl rfl rfl) ?_ | refine Go.skip ?_ | refine Go.retF rfl ?_ rfl
 all_goals rfl
end Go.Px.Du
end
