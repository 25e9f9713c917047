/- Parts of the proof in YthaagimdjfkjpaaGreatDoorXFin: DuZ. -/
import Derived.Test.YthaagimdjfkjpaaGreatDoorXLr
import Derived.Test.YthaagimdjfkjpaaGreatDoorXLs
import Derived.Test.YthaagimdjfkjpaaGreatDoorXK4
set_option linter.unusedVariables false
set_option linter.unusedSimpArgs false
section
set_option maxHeartbeats 4000000
set_option maxRecDepth 20000
namespace Go.Px.Du
open Go.Proofs Go.Px.Ds Go.Px.De
attribute [local irreducible] Go.Px.KOk Go.Px.KOkW
theorem k11 (l : List Tx) (n : Int) : KOk cF 11 [.agg (dmA l n)] (.fn (.func 20) [] [.rptr (dmA l n)]) := by
 refine KOk.of cF_ok eF.g Tryz.func11 rfl (Nat.le_of_ble_eq_true rfl) fun w F => ?_
 repeat' first | refine Go.seq ?_ | refine Go.region rfl ?_ | refine Ops.nil ?_ | refine Ops.val eF rfl rfl Zw (by first | exact Z1 | exact Y38) ?_ | refine Ops.boxR eF rfl rfl Zw rfl rfl rfl rfl ?_ | refine Go.retF rfl ?_ rfl
 all_goals rfl
noncomputable def upS (l : List Tx) (n : Int) (j : Nat) : Str := ((lnsS l n).take j).flatMap fun s => s
theorem upS_succ {l : List Tx} {n : Int} {j : Nat} (h : j < (lnsS l n).length) : upS l n (j + 1) = upS l n j ++ (lnsS l n).getD j default := by
 unfold upS; rw [take_succ' h, List.flatMap_append]; simp
theorem upS_all (l : List Tx) (n : Int) : upS l n (l.length + 1) = txsS l ++ lineS (endN l n) := by
 unfold upS
 rw [List.take_of_length_le (by unfold lnsS; simp)]
 unfold lnsS txsS
 rw [List.flatMap_append, List.flatMap_map]; simp
theorem upS_le (l : List Tx) (n : Int) (j : Nat) : (upS l n j).length ≤ (upS l n (l.length + 1)).length := by
 have e : upS l n (l.length + 1) = (lnsS l n).flatMap fun s => s := by unfold upS; rw [List.take_of_length_le (by unfold lnsS; simp)]
 have : upS l n j ++ ((lnsS l n).drop j).flatMap (fun s => s) = (lnsS l n).flatMap fun s => s := by unfold upS; rw [← List.flatMap_append, List.take_append_drop]
 rw [e, ← this, List.length_append]; omega
theorem itL_at {l : List Tx} {n : Int} {j : Nat} {v : List AV} (h : (itL l n)[j]? = some v) : j < (lnsS l n).length ∧ v = [sA ((lnsS l n).getD j default), .bool true] := by
 unfold itL at h
 rw [List.getElem?_map] at h
 by_cases hj : j < (lnsS l n).length
 ·rw [List.getElem?_eq_getElem hj] at h
  refine ⟨hj, ?_⟩
  rw [List.getD_eq_getElem?_getD, List.getElem?_eq_getElem hj]
  exact (Option.some.inj h).symm
 ·rw [List.getElem?_eq_none (by omega)] at h; cases h
theorem lns_ne {l : List Tx} {n : Int} {j : Nat} (h : j < (lnsS l n).length) : (lnsS l n).getD j default ≠ [] := by
 have key : ∀ s ∈ lnsS l n, s ≠ [] := by
  intro s hs
  unfold lnsS at hs
  rcases List.mem_append.1 hs with hs | hs
  ·obtain ⟨x, _, rfl⟩ := List.mem_map.1 hs
   unfold lineS; simp
  ·rw [List.mem_singleton.1 hs]; unfold lineS; simp
 rw [List.getD_eq_getElem?_getD, List.getElem?_eq_getElem h]
 exact key _ (List.getElem_mem h)
noncomputable def blkS (a : AV) (s : Str) : List AB := [.row ⟨44, 2, .leaf, [a, .own 1 s.length 1], none⟩, .arr 5 1 s.length (s.flatMap byC), .row ⟨4, 1, .leaf, [.bool true], none⟩, .dfr true]
theorem k5 {W : World} (hT : TabW W) (l : List Tx) (n : Int) (hl : l.length ≤ 1000000) (hd : ∀ i, (l.getD i default).l.length ≤ 1000000) (hs : ∀ i k, ((l.getD i default).l.getD k default).v.s.length ≤ 100000) (hP : DmP l n → LnsP l n) :
  KOkW cF W 5 [.agg (dmA l n)] (bif bd (DmP l n) then .tup [sA (txsS l ++ lineS (endN l n)), .int .i64 0] else .tup [sA [], .int .i64 280]) := by
 have k1 := k10 l n hl hd hs
 have k2 := k11 l n
 refine KOkW.of W cF_ok eF.g Tryz.func5 rfl (Nat.le_of_ble_eq_true rfl) fun w F hE => ?_
 have lw : LW W ⟨cF, w, F, fun _ => False, none, none, [], [], []⟩ := LW.none hE
 by_cases hm_ : DmP l n
 ·rw [bd_of hm_] at k1 ⊢
  have hP := hP hm_
  have hl1 := hP.len
  have hel := hP.en.len
  have hal := hP.all
  have it := it20 hT l n hl1 hP.lens hP.tx hP.en
  have hlen : (upS l n (l.length + 1)).length ≤ 900000 - 1 := by
   rw [upS_all, List.length_append]; omega
  rw [← upS_all]
  show Go _ _ _ _ _ _ _ (Fin cF Tryz.f5.results.toList (.tup [sA (upS l n (l.length + 1)), .int .i64 0]))
  repeat' first | refine Go.seq ?_ | refine Go.region rfl ?_ | refine Ops.nil ?_ | refine Ops.boxR eF rfl rfl Zw rfl rfl rfl rfl ?_ | refine Ops.change (Chg.tokCellJ 1 0 1 5 1 2 rfl (by decide) rfl rfl rfl rfl) ?_ | refine Ops.val eF rfl rfl Zw Zk ?_ | refine Go.condT rfl ?_ | refine Go.condF rfl ?_ | refine Ops.val eF rfl rfl Zw (by first | exact Z1 | exact Z2 | exact Z5) ?_ | refine Ops.call eF rfl rfl Zw rfl rfl rfl rfl (k1) rfl ?_ | refine Ops.call eF rfl rfl Zw rfl rfl rfl rfl (k2) rfl ?_ | refine Ops.rowAt eF 0 rfl rfl Zw rfl (Hop.alloc eF rfl rfl rfl) ?_ | refine Ops.rowAt eF 2 rfl rfl Zw rfl (Hop.alloc eF rfl rfl rfl) ?_ | refine Ops.unit eF rfl Zw (Hop.store eF rfl rfl rfl rfl rfl rfl) (ArrKeep.put rfl) ?_ | refine Go.block ?_ | refine Go.skip ?_ | refine Go.scope ?_ | refine Go.label ?_
  refine Go.to (M := [(4, .ptr 0 0), (5, .ptr 2 0), (12, .fn (.func 20) [] [.rptr (dmA l n)])]) ?_ Zt
  refine Go.rangeX lw eF 3 rfl rfl rfl it rfl (fun j => match j with | 0 => hq 4 (blkS .nilptr []) | j + 1 => hq 4 (blkS (.ptr 0 0) (upS l n (j + 1)))) (fun b => ?_) (fun j v hv => by rw [(itL_at hv).2]; rfl) rfl (fun j v hv b2 => ?_) ?_
  ·show ChgE _ _ (hq 4 (blkS .nilptr []))
   exact ChgE.cut _ rfl eF.g rfl Zg Zl
  ·obtain ⟨hj, rfl⟩ := itL_at hv
   have hne := lns_ne hj
   have hup := upS_succ hj
   have hle := upS_le l n (j + 1)
   rw [hup, List.length_append] at hle
   generalize (lnsS l n).getD j default = s at *
   cases j with
   | zero =>
    have kw := m12_44 (a := .nilptr) (.inl rfl) 0 [] s hne (by omega)
    repeat' first | refine Go.seq ?_ | refine Go.region rfl ?_ | refine Ops.nil ?_ | refine Ops.val eF rfl rfl Zw Z1 ?_
    refine Go.bodyK (fun b3 => ?_)
    repeat' first | refine Go.seq ?_ | refine Go.region rfl ?_ | refine Ops.nil ?_ | refine Ops.val eF rfl rfl Zw Zk ?_ | refine Go.condT rfl ?_ | refine Go.condF rfl ?_ | refine Ops.callM (v' := .tup [.int .i64 s.length, .nilifc]) (ab := [.row ⟨44, 2, .leaf, [.ptr 0 0, .own 1 (0 + s.length) 1], none⟩, .arr 5 1 (0 + s.length) ([] ++ s.flatMap byC)]) eF [0, 1] 4 Zw rfl rfl rfl rfl (kw) rfl (wk_eq rfl) rfl Zb Zo rfl rfl rfl rfl rfl rfl rfl ?_ | refine Ops.val eF rfl rfl Zw (by first | exact Z1 | exact Z2) ?_ | refine Ops.unit eF rfl Zw (Hop.store eF rfl rfl rfl rfl rfl rfl) (ArrKeep.put rfl) ?_ | refine Go.block ?_ | refine Go.unblk ?_ | refine Go.skip ?_
    refine Go.nextK ?_
    show ChgE _ _ (hq 4 (blkS (.ptr 0 0) (upS l n (0 + 1))))
    have e0 : upS l n 0 = [] := rfl
    rw [hup, e0, List.nil_append]
    rw [Nat.zero_add, List.nil_append]
    exact ChgE.cut _ rfl eF.g rfl Zg Zl
   | succ j =>
    have kw := m12_44 (a := .ptr 0 0) (.inr rfl) (upS l n (j + 1)).length ((upS l n (j + 1)).flatMap byC) s hne (by omega)
    repeat' first | refine Go.seq ?_ | refine Go.region rfl ?_ | refine Ops.nil ?_ | refine Ops.val eF rfl rfl Zw Z1 ?_
    refine Go.bodyK (fun b3 => ?_)
    repeat' first | refine Go.seq ?_ | refine Go.region rfl ?_ | refine Ops.nil ?_ | refine Ops.val eF rfl rfl Zw Zk ?_ | refine Go.condT rfl ?_ | refine Go.condF rfl ?_ | refine Ops.callM (v' := .tup [.int .i64 s.length, .nilifc]) (ab := [.row ⟨44, 2, .leaf, [.ptr 0 0, .own 1 ((upS l n (j + 1)).length + s.length) 1], none⟩, .arr 5 1 ((upS l n (j + 1)).length + s.length) ((upS l n (j + 1)).flatMap byC ++ s.flatMap byC)]) eF [0, 1] 4 Zw rfl rfl rfl rfl (kw) rfl (wk_eq rfl) rfl Zb Zo rfl rfl rfl rfl rfl rfl rfl ?_ | refine Ops.val eF rfl rfl Zw (by first | exact Z1 | exact Z2) ?_ | refine Ops.unit eF rfl Zw (Hop.store eF rfl rfl rfl rfl rfl rfl) (ArrKeep.put rfl) ?_ | refine Go.block ?_ | refine Go.unblk ?_ | refine Go.skip ?_
    refine Go.nextK ?_
    show ChgE _ _ (hq 4 (blkS (.ptr 0 0) (upS l n (j + 1 + 1))))
    rw [hup]
    unfold blkS
    rw [List.length_append, List.flatMap_append]
    exact ChgE.cut _ rfl eF.g rfl Zg Zl
  ·rw [itL_len]
   have hne : upS l n (l.length + 1) ≠ [] := by rw [upS_all]; unfold lineS; simp
   have ks := m13_44 (upS l n (l.length + 1)) hne (by omega)
   show Go _ _ _ _ _ (hq 4 (blkS (.ptr 0 0) (upS l n (l.length + 1)))) _ _
   generalize upS l n (l.length + 1) = s at *
   unfold blkS
   repeat' first | refine Go.seq ?_ | refine Go.region rfl ?_ | refine Ops.nil ?_ | refine Ops.val eF rfl rfl Zw Zk ?_ | refine Go.condT rfl ?_ | refine Go.condF rfl ?_ | refine Ops.callM (v' := sA s) (ab := [.row ⟨44, 2, .leaf, [.ptr 0 0, .own 1 s.length 1], none⟩, .none]) eF [0, 1] 4 Zw rfl rfl rfl rfl (ks) rfl (wk_eq rfl) rfl Zb Zo rfl rfl rfl rfl rfl rfl rfl ?_ | refine Ops.val eF rfl rfl Zw (by first | exact Z1 | exact Z2 | exact Z5) ?_ | refine Go.unblk ?_ | refine Go.skip ?_ | refine Go.retFm rfl rfl ?_ rfl
   all_goals rfl
 ·rw [bd_no hm_] at k1 ⊢
  repeat' first | refine Go.seq ?_ | refine Go.region rfl ?_ | refine Ops.nil ?_ | refine Ops.boxR eF rfl rfl Zw rfl rfl rfl rfl ?_ | refine Ops.val eF rfl rfl Zw Zk ?_ | refine Go.condT rfl ?_ | refine Go.condF rfl ?_ | refine Ops.val eF rfl rfl Zw (by first | exact Z1 | exact Z2 | exact Z5) ?_ | refine Ops.call eF rfl rfl Zw rfl rfl rfl rfl (k1) rfl ?_ | refine Go.scope ?_ | refine Go.retF rfl ?_ rfl
  all_goals rfl
end Go.Px.Du
end
