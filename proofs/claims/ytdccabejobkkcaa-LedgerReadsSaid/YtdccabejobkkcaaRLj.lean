/- Parts of the proof in YtdccabejobkkcaaRFin: LrM. -/
import Derived.Test.YtdccabejobkkcaaRLi
import Derived.Test.YtdccabejobkkcaaRK4
set_option linter.unusedVariables false
set_option linter.unusedSimpArgs false
section
set_option maxHeartbeats 4000000
set_option maxRecDepth 20000
namespace Go.Px.Lr
open Go.Proofs
attribute [local irreducible] Go.Px.KOk
theorem mget_same {k : Int} {v : Str} {n : Nat} : ∀ l : Objs, mget k (mset k v n l) = some v
 | [] => by show (bif bd (k = k) then some v else none) = some v; rw [bd_of rfl]; rfl
 | o :: r => by
  simp only [mset]
  cases h : bd (k = o.1) with
  | true => show (bif bd (k = k) then some v else _) = some v; rw [bd_of rfl]; rfl
  | false => simp only [cond_false, mget, h]; exact mget_same r
theorem mget_other {k j : Int} {v : Str} {n : Nat} (hj : j ≠ k) : ∀ l : Objs, mget j (mset k v n l) = mget j l
 | [] => by simp only [mset, mget]; rw [bd_no hj]; rfl
 | o :: r => by
  simp only [mset]
  cases h : bd (k = o.1) with
  | true =>
   have e := bd_iff.1 h
   simp only [cond_true, mget]
   rw [bd_no hj, bd_no (show ¬ j = o.1 by rw [← e]; exact hj)]; rfl
  | false => simp only [cond_false, mget]; rw [mget_other hj r]
noncomputable def objsL (base : Int) (l : List Str) : Nat → Objs × Nat
 | 0 => ([], 0)
 | i + 1 => (mset (base + i) (l.getD i default) (objsL base l i).2 (objsL base l i).1, mclk (base + i) (objsL base l i).2 (objsL base l i).1)
theorem objsL_get (base : Int) (l : List Str) : ∀ (i j : Nat), mget (base + j) (objsL base l i).1 = if j < i then some (l.getD j default) else none
 | 0, j => by rw [if_neg (Nat.not_lt_zero _)]; rfl
 | i + 1, j => by
  show mget (base + j) (mset (base + i) _ _ _) = _
  by_cases h : j = i
  ·subst h; rw [mget_same, if_pos (Nat.lt_succ_self _)]
  ·rw [mget_other (by omega), objsL_get base l i j]
   by_cases h2 : j < i
   ·rw [if_pos h2, if_pos (by omega)]
   ·rw [if_neg h2, if_neg (by omega)]
theorem objsL_at (base : Int) (l : List Str) : ObjsAt (objsL base l l.length).1 base l := ⟨fun i hi => by rw [objsL_get, if_pos hi], by rw [objsL_get, if_neg (Nat.lt_irrefl _)]⟩
theorem flat_recs : ∀ (l : List Str) (m : Nat), (∀ b ∈ l, b.length ≤ m) → (segs l).flatten.length ≤ m * l.length
 | [], m, _ => by simp [segs]
 | b :: l, m, h => by
  have ih := flat_recs l m (fun b hb => h b (List.mem_cons_of_mem _ hb))
  have h1 := recs_le b.length b (Nat.le_refl _)
  have h2 := h b List.mem_cons_self
  have e : segs (b :: l) = (recs b).1 :: segs l := rfl
  rw [e, List.flatten_cons, List.length_append, List.length_cons, Nat.mul_add, Nat.mul_one]
  omega
theorem getD_mem {α : Type} [Inhabited α] {l : List α} {i : Nat} (h : i < l.length) : l.getD i default ∈ l := by rw [List.getD_eq_getElem?_getD, List.getElem?_eq_getElem h]; exact List.getElem_mem h
theorem segs_el (l : List Str) (m : Nat) (h : ∀ b ∈ l, b.length ≤ m) (j k : Nat) : (((segs l).getD j default).getD k default).length ≤ m := by
 by_cases hj : j < l.length
 ·have e : (segs l).getD j default = (recs (l.getD j default)).1 := by
   have := segs_at (l := l) (i := l.length) hj (Nat.le_refl _)
   rwa [List.take_length] at this
  rw [e]
  have hb : (l.getD j default).length ≤ m := h _ (getD_mem hj)
  by_cases hk : k < (recs (l.getD j default)).1.length
  ·refine Nat.le_trans (recs_mem _ (l.getD j default) (Nat.le_refl _) _ ?_) hb
   exact getD_mem hk
  ·rw [List.getD_eq_getElem?_getD, List.getElem?_eq_none (by omega)]; exact Nat.zero_le _
 ·have e : (segs l).getD j default = [] := by rw [List.getD_eq_getElem?_getD, List.getElem?_eq_none (by rw [segs_len]; omega)]; rfl
  rw [e]; exact Nat.zero_le _
theorem rowW : BlkW h6 4 (.row ⟨62, 7, .leaf, volC 26, none⟩) := .inr (.inr ⟨_, r6, rfl, row6, ⟨r6t.symm, r6n.symm, fun j hj ρ x q => by
 have h7 : j < 7 := hj
 rw [← Row.read_get r6 7 j h7, r6c] at q
 match j, h7 with
 | 0, _ => exact weak_ptr _ _ ρ x q
 | 1, _ => exact q
 | 2, _ => show VR ρ .bad x; simp only [VR]
 | 3, _ => show VR ρ .bad x; simp only [VR]
 | 4, _ => show VR ρ .bad x; simp only [VR]
 | 5, _ => show VR ρ .bad x; simp only [VR]
 | 6, _ => exact q⟩, r6r.symm⟩)
theorem blksW : BlksW h6 [.none, .none, .none, .none, .row ⟨62, 7, .leaf, volC 26, none⟩, .none, .none, .none, .none, .none, .none, .none, .none, .none, .none, .none, .none, .none, .none, .none, .none, .none, .none, .none, .none, .none, .map (mE keyI bysA []) 0, .none] 0 := ⟨.inl rfl, .inl rfl, .inl rfl, .inl rfl, rowW, .inl rfl, .inl rfl, .inl rfl, .inl rfl, .inl rfl, .inl rfl, .inl rfl, .inl rfl, .inl rfl, .inl rfl, .inl rfl, .inl rfl, .inl rfl, .inl rfl, .inl rfl, .inl rfl, .inl rfl, .inl rfl, .inl rfl, .inl rfl, .inl rfl, .inr (.inl map6), .inl rfl, trivial⟩
theorem eqN32 : eqv cF 6 32 .nilptr .nilptr = some true := by kernel_rfl
theorem k3 (l : List Str) : KOk cF 3 [lstA l] (.bool true) := by
 refine KOk.of cF_ok eF.g Try.func3 rfl (Nat.le_of_ble_eq_true rfl) fun w F => ?_
 refine Go.toHQ (N := 0) (bs := []) (L' := [(0, lstA l)]) ?_ rfl eF.g ⟨rfl, trivial⟩ rfl rfl trivial trivial rfl rfl
 by_cases c20 : (20 : Int) < (l.length : Int)
 ·repeat' first | refine Go.seq ?_ | refine Go.region rfl ?_ | refine Ops.nil ?_ | refine Ops.val eF rfl rfl Zw (by first | exact Z1 | exact Z3 | exact Z6) ?_ | refine Go.condTt rfl Za ?_ | refine Go.retF rfl ?_ rfl
  all_goals first | rfl | trivial
 ·repeat' first | refine Go.seq ?_ | refine Go.region rfl ?_ | refine Ops.nil ?_ | refine Ops.val eF rfl rfl Zw (by first | exact Z1 | exact Z3 | exact Z6) ?_ | refine Go.condFt rfl Za ?_ | refine Go.skip ?_
  refine Ops.runQ eF appF_ok (bs := b5) rfl rfl rfl (Want.no rfl) rfl rfl rfl rfl ran5 nxt5 blks5 plain5 ?_
  repeat' first | refine Ops.val eF rfl rfl (Want.no rfl) Z1 ?_ | refine Ops.nil ?_ | refine Go.seq ?_ | refine Go.region rfl ?_
  refine Ops.runQ eF appF_ok (bs := [.none, .none, .none, .none, .row ⟨62, 7, .leaf, volC 26, none⟩, .none, .none, .none, .none, .none, .none, .none, .none, .none, .none, .none, .none, .none, .none, .none, .none, .none, .none, .none, .none, .none, .map (mE keyI bysA (objsL 50 l 0).1) (objsL 50 l 0).2, .none]) plain5 rfl rfl (Want.no rfl) rfl rfl rfl rfl ran6 nxt6 blksW rfl ?_
  repeat' first | refine Go.seq ?_ | refine Go.region rfl ?_ | refine Ops.nil ?_ | refine Ops.val eF rfl rfl Zw Zk ?_ | refine Go.condT rfl ?_ | refine Go.condF rfl ?_ | refine Ops.val eF rfl rfl Zw Z1 ?_ | refine Go.block ?_ | refine Go.skip ?_
  refine Go.toHQ (N := 28) (bs := [.none, .none, .none, .none, .row ⟨62, 7, .leaf, volC 26, none⟩, .none, .none, .none, .none, .none, .none, .none, .none, .none, .none, .none, .none, .none, .none, .none, .none, .none, .none, .none, .none, .none, .map (mE keyI bysA (objsL 50 l 0).1) (objsL 50 l 0).2, .none]) (L' := [(0, lstA l), (5, .ptr 4 0), (7, .int .i64 (0 : Nat))]) ?_ rfl eF.g Zt rfl rfl Zg ⟨trivial, trivial, trivial, trivial, low_row rfl rfl, trivial, trivial, trivial, trivial, trivial, trivial, trivial, trivial, trivial, trivial, trivial, trivial, trivial, trivial, trivial, trivial, trivial, trivial, trivial, trivial, trivial, esD _, trivial, trivial⟩ rfl rfl
  refine Go.loop (fun i : Nat => [(0, lstA l), (5, .ptr 4 0), (7, .int .i64 (i : Nat))]) (fun i => hq 28 [.none, .none, .none, .none, .row ⟨62, 7, .leaf, volC 26, none⟩, .none, .none, .none, .none, .none, .none, .none, .none, .none, .none, .none, .none, .none, .none, .none, .none, .none, .none, .none, .none, .none, .map (mE keyI bysA (objsL 50 l i).1) (objsL 50 l i).2, .none]) (fun i => i ≤ l.length ∧ ∀ j, j < i → (l.getD j default).length ≤ 300) (fun i => l.length - i) 0 ⟨Nat.zero_le _, fun j h => absurd h (Nat.not_lt_zero _)⟩ Zt rfl (fun i hi ih => ?_)
  obtain ⟨hi, hal⟩ := hi
  by_cases c0 : (i : Int) < (l.length : Int)
  ·by_cases c1 : (300 : Int) < ((l.getD (i : Int).toNat default).length : Int)
   ·repeat' first | refine Go.seq ?_ | refine Go.region rfl ?_ | refine Ops.nil ?_ | refine Ops.val eF rfl rfl Zw (by first | exact Z1 | exact Z3 | exact Y24 | exact Z5 | exact Z6) ?_ | refine Go.condTt rfl Za ?_ | refine Go.block ?_ | refine Go.skip ?_ | refine Go.retF rfl ?_ rfl
    all_goals first | rfl | trivial
   ·have hle : (l.getD i default).length ≤ 300 := by have : ¬ (300 : Int) < ((l.getD i default).length : Int) := c1; omega
    have k7 := m7 (objsL 50 l i).1 (objsL 50 l i).2 (50 + (i : Int)) (l.getD i default) (by omega) (by omega)
    have g := ih (i + 1) ⟨by omega, fun j hj => by
     by_cases e : j = i
     ·subst e; exact hle
     ·exact hal j (by omega)⟩ (by omega)
    simp only [objsL] at g
    repeat' first | refine Go.seq ?_ | refine Go.region rfl ?_ | refine Ops.nil ?_ | refine Ops.callM (v' := .int .i64 0) (ab := [.row ⟨62, 7, .leaf, volC 26, none⟩, .map (mE keyI bysA (mset (50 + (i : Int)) (l.getD i default) (objsL 50 l i).2 (objsL 50 l i).1)) (mclk (50 + (i : Int)) (objsL 50 l i).2 (objsL 50 l i).1)]) eF [4, 26] 28 Zw rfl rfl rfl rfl (k7) rfl (wk_eq rfl) rfl (by repeat' first | exact trivial | exact ⟨rfl, ⟨_, rfl, rfl, rfl, rfl, rfl⟩⟩ | exact ⟨rfl, rfl⟩ | refine And.intro ?_ ?_) (by repeat' first | exact trivial | exact .inl rfl | exact .inr trivial | exact .inr rfl | exact .inr (ok_row rfl rfl) | exact .inr (mE_dat _ _ (fun _ => rfl) _) | refine And.intro ?_ ?_) rfl rfl rfl rfl rfl rfl rfl ?_ | refine Ops.val eF rfl rfl Zw (by first | exact Z1 | exact Z3 | exact Y14 | exact Y24 | exact Z5 | exact Z6) ?_ | refine Go.condTt rfl Za ?_ | refine Go.condFt rfl Za ?_ | refine Go.block ?_ | refine Go.unblk ?_ | refine Go.skip ?_
    exact Go.toQ g rfl eF.g Zt rfl rfl Zg ⟨trivial, trivial, trivial, trivial, low_row rfl rfl, trivial, trivial, trivial, trivial, trivial, trivial, trivial, trivial, trivial, trivial, trivial, trivial, trivial, trivial, trivial, trivial, trivial, trivial, trivial, trivial, trivial, esD _, trivial, trivial⟩ rfl rfl
  ·have ei : i = l.length := by omega
   subst ei
   have hm : ∀ b ∈ l, b.length ≤ 300 := fun b hb => by
    obtain ⟨j, hj, rfl⟩ := List.getElem_of_mem hb
    have := hal j hj
    rwa [List.getD_eq_getElem?_getD, List.getElem?_eq_getElem hj] at this
   have hs : ∀ j, (l.getD j default).length ≤ 300 := fun j => by
    by_cases h : j < l.length
    ·exact hal j h
    ·rw [List.getD_eq_getElem?_getD, List.getElem?_eq_none (by omega)]; exact Nat.zero_le _
   have hat := objsL_at 50 l
   have k9' := k9 l 100 (by omega) (fun j => Nat.le_trans (hs j) (by decide))
   unfold opA at k9'
   generalize (objsL 50 l l.length).1 = O at *
   generalize (objsL 50 l l.length).2 = C at *
   by_cases hyes : SegsP l
   ·rw [bd_of hyes] at k9'
    have k9' : KOk cF 9 [lstA l, .int .i64 100] (.tup [.agg [segA (segs l), .int .i64 100], .int .i64 0]) := k9'
    have k8 := m8y O C 50 100 l (by decide) (by decide) hat (by omega) (fun j => Nat.le_trans (hs j) (by decide)) hyes
    have k10 := m10 O C 50 100 100 l (by decide) hat (by omega) (fun j => Nat.le_trans (hs j) (by decide)) (Nat.le_trans (flat_recs l 300 hm) (by omega)) (fun j k => Nat.le_trans (segs_el l 300 hm j k) (by decide)) hyes
    repeat' first | refine Go.seq ?_ | refine Go.region rfl ?_ | refine Ops.nil ?_ | refine Ops.val eF rfl rfl Zw Zk ?_ | refine Go.condT rfl ?_ | refine Go.condF rfl ?_ | refine Ops.callM (v' := .tup [.ptr 28 0, .int .i64 0]) (ab := [.row ⟨62, 7, .leaf, volC 26, none⟩, .map (mE keyI bysA O) C, .row ⟨82, 4, .leaf, ledC (segs l) 50 100 4, none⟩]) eF [4, 26] 28 Zw rfl rfl rfl rfl (k8) rfl (wk_eq rfl) rfl (by repeat' first | exact trivial | exact ⟨rfl, ⟨_, rfl, rfl, rfl, rfl, rfl⟩⟩ | exact ⟨rfl, rfl⟩ | refine And.intro ?_ ?_) (by repeat' first | exact trivial | exact .inl rfl | exact .inr trivial | exact .inr rfl | exact .inr (ok_row rfl rfl) | exact .inr (mE_dat _ _ (fun _ => rfl) _) | refine And.intro ?_ ?_) rfl rfl rfl rfl rfl rfl rfl ?_ | refine Ops.callM (v' := .bool true) (ab := [.row ⟨82, 4, .leaf, ledC (segs l) 50 100 4, none⟩, .row ⟨62, 7, .leaf, volC 26, none⟩, .map (mE keyI bysA O) C, .row ⟨37, 2, .leaf, refC (segs l) 100, none⟩]) eF [28, 4, 26, 29] 30 Zw rfl rfl rfl rfl (k10) rfl (wk_eq rfl) rfl (by repeat' first | exact trivial | exact ⟨rfl, ⟨_, rfl, rfl, rfl, rfl, rfl⟩⟩ | exact ⟨rfl, rfl⟩ | refine And.intro ?_ ?_) (by repeat' first | exact trivial | exact .inl rfl | exact .inr trivial | exact .inr rfl | exact .inr (ok_row rfl rfl) | exact .inr (mE_dat _ _ (fun _ => rfl) _) | refine And.intro ?_ ?_) rfl rfl rfl rfl rfl rfl rfl ?_ | refine Ops.rowAt eF 29 rfl rfl Zw rfl (Hop.alloc eF rfl rfl rfl) ?_ | refine Ops.val eF rfl rfl Zw (by first | exact Z1 | exact Z2 | exact Z6) ?_ | refine Ops.call eF rfl rfl Zw rfl rfl rfl rfl (k9') rfl ?_ | refine Ops.unit eF rfl Zw (Hop.store eF rfl rfl rfl rfl rfl rfl) (ArrKeep.put rfl) ?_ | refine Go.skip ?_ | refine Go.exit rfl ?_ | refine Go.retF rfl ?_ rfl
    all_goals first | rfl | trivial
   ·rw [bd_no hyes] at k9'
    have k9' : KOk cF 9 [lstA l, .int .i64 100] (.tup [.agg [.nilsl, .int .i64 0], .int .i64 230]) := k9'
    have k8 := m8n O C 50 100 l (by decide) (by decide) hat (by omega) (fun j => Nat.le_trans (hs j) (by decide)) hyes
    repeat' first | refine Go.seq ?_ | refine Go.region rfl ?_ | refine Ops.nil ?_ | refine Ops.val eF rfl rfl Zw Zk ?_ | refine Go.condT rfl ?_ | refine Go.condF rfl ?_ | refine Ops.gNn rfl rfl Za ?_ | refine Ops.callM (v' := .tup [.nilptr, .int .i64 230]) (ab := [.row ⟨62, 7, .leaf, volC 26, none⟩, .map (mE keyI bysA O) C]) eF [4, 26] 28 Zw rfl rfl rfl rfl (k8) rfl (wk_eq rfl) rfl (by repeat' first | exact trivial | exact ⟨rfl, ⟨_, rfl, rfl, rfl, rfl, rfl⟩⟩ | exact ⟨rfl, rfl⟩ | refine And.intro ?_ ?_) (by repeat' first | exact trivial | exact .inl rfl | exact .inr trivial | exact .inr rfl | exact .inr (ok_row rfl rfl) | exact .inr (mE_dat _ _ (fun _ => rfl) _) | refine And.intro ?_ ?_) rfl rfl rfl rfl rfl rfl rfl ?_ | refine Ops.val eF rfl rfl Zw (by exact Hop.eqD rfl rfl rfl rfl eqN32) ?_ | refine Ops.rowAt eF 28 rfl rfl Zw rfl (Hop.alloc eF rfl rfl rfl) ?_ | refine Ops.val eF rfl rfl Zw (by first | exact Z1 | exact Z2 | exact Z3 | exact Z6) ?_ | refine Ops.skip rfl rfl Zn ?_ | refine Ops.call eF rfl rfl Zw rfl rfl rfl rfl (k9') rfl ?_ | refine Ops.unit eF rfl Zw (Hop.store eF rfl rfl rfl rfl rfl rfl) (ArrKeep.put rfl) ?_ | refine Go.exit rfl ?_ | refine Go.retF rfl ?_ rfl
    all_goals first | rfl | trivial
end Go.Px.Lr
end
