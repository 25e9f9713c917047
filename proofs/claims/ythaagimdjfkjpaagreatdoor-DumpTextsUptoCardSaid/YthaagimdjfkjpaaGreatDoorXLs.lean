/- Parts of the proof in YthaagimdjfkjpaaGreatDoorXFin: DuT. -/
import Derived.Test.YthaagimdjfkjpaaGreatDoorXLc
import Derived.Test.YthaagimdjfkjpaaGreatDoorXLk
import Derived.Test.YthaagimdjfkjpaaGreatDoorXLn
import Derived.Test.YthaagimdjfkjpaaGreatDoorXLo
import Derived.Test.YthaagimdjfkjpaaGreatDoorXK4
set_option linter.unusedVariables false
set_option linter.unusedSimpArgs false
section
set_option maxHeartbeats 4000000
set_option maxRecDepth 20000
namespace Go.Px.Du
open Go.Proofs Go.Px.Ds Go.Px.De
attribute [local irreducible] Go.Px.KOk Go.Px.KOkW
noncomputable def lnsS (l : List Tx) (n : Int) : List Str := l.map (fun x => lineS (txN x)) ++ [lineS (endN l n)]
noncomputable def itL (l : List Tx) (n : Int) : List (List AV) := (lnsS l n).map fun s => [sA s, .bool true]
theorem itL_len (l : List Tx) (n : Int) : (itL l n).length = l.length + 1 := by unfold itL lnsS; simp
theorem itL_tx {l : List Tx} {n : Int} {i : Nat} (h : i < l.length) : (itL l n)[i]? = some [sA (lineS (txN (l.getD i default))), .bool true] := by
 unfold itL lnsS
 rw [List.getElem?_map, List.getElem?_append_left (by simpa using h), List.getElem?_map, List.getElem?_eq_getElem h, List.getD_eq_getElem?_getD, List.getElem?_eq_getElem h]; rfl
theorem itL_end {l : List Tx} {n : Int} : (itL l n)[l.length]? = some [sA (lineS (endN l n)), .bool true] := by
 unfold itL lnsS
 rw [List.getElem?_map, List.getElem?_append_right (by simp)]; simp
theorem k23x {W : World} (hT : TabW W) (x : Nd) (h : LnP x) : KOkW cF W 23 [.rsl 1 8 (encN x)] (.tup [sA (lineS x), .int .i64 0]) := by
 have := k23 hT [x] h.cnt h.ok (by rw [jn1]; exact h.len) (by simp)
 rw [jn1, ndsA1] at this
 exact this
theorem it20 {W : World} (hT : TabW W) (l : List Tx) (n : Int) (hl : l.length ≤ 1000) (hd : ∀ i, (l.getD i default).l.length ≤ 1000) (hx : ∀ i, i < l.length → LnP (txN (l.getD i default))) (he : LnP (endN l n)) : KItW cF W 20 [.rptr (dmA l n)] (itL l n) := by
 refine KItW.of W cF_ok eF.g Tryz.func20 rfl rfl fun w F opn_ G gx lw hG => ?_
 repeat' first | refine Go.seq ?_ | refine Go.region rfl ?_ | refine Ops.nil ?_ | refine Ops.val eF rfl rfl Zw (by first | exact Z1 | exact Z4 | exact Z5 | exact Z6) ?_ | refine Go.block ?_
 refine Go.loop (fun i : Nat => [(0, .fn (.yield 1) [] []), (1, .rptr (dmA l n)), (13, txsA l), (14, .int .i64 l.length), (15, .int .i64 i)]) (fun i => hq 2 [.arr 0 i 0 [], .none]) (fun i => i ≤ l.length) (fun i => l.length - i) 0 (Nat.zero_le _) Zt rfl (fun i hi ih => ?_)
 by_cases c0 : (i : Int) < (l.length : Int)
 ·have hlt : i < l.length := by omega
  have hil := itL_tx (n := n) hlt
  have g := ih (i + 1) (by omega) (by omega)
  have k1 := k21 1 (l.getD i default).t
  have hdi := hd i
  have hxi := hx i hlt
  have k2 := k24 [116, 120] (val 1 (l.getD i default).t :: (l.getD i default).l.map nodeD) (by rw [List.length_cons, List.length_map]; omega)
  rw [ndsA_cons, List.length_map] at k2
  have k3 := k23x hT (txN (l.getD i default)) hxi
  unfold txN at k3 hil
  repeat' first | refine Go.seq ?_ | refine Go.region rfl ?_ | refine Ops.nil ?_ | refine Ops.bsliceOwn eF 3 (z := 8) rfl rfl Zw rfl rfl rfl rfl rfl rfl rfl rfl rfl rfl rfl rfl rfl rfl rfl Zi rfl rfl rfl rfl ?_ | refine Ops.val eF rfl rfl Zw (by first | exact Z1 | exact Z3 | exact Z4 | exact Y24 | exact Z5 | exact Z6) ?_ | refine Ops.call eF rfl rfl Zw rfl rfl rfl rfl (k1) rfl ?_ | refine Ops.rowAt eF 2 rfl rfl Zw rfl (Hop.alloc eF rfl rfl rfl) ?_ | refine Ops.unit eF rfl Zw (Hop.store eF rfl rfl rfl rfl rfl rfl) (ArrKeep.put rfl) ?_ | refine Go.condTt rfl Za ?_ | refine Go.block ?_ | refine Go.skip ?_
  all_goals try simp only [Int.toNat_natCast] at *
  refine Go.toHQ (N := 4) (bs := [.arr 0 i 0 [], .none, .row ⟨38, 2, .leaf, encTx (l.getD i default), none⟩, .arr 61 8 1 (encN (val 1 (l.getD i default).t))]) (L' := [(0, .fn (.yield 1) [] []), (1, .rptr (dmA l n)), (4, .ptr 2 0), (5, .own 3 1 8), (13, txsA l), (14, .int .i64 l.length), (15, .int .i64 i), (24, dasA (l.getD i default).l), (25, .int .i64 (l.getD i default).l.length), (26, .int .i64 (0 : Nat))]) ?_ rfl eF.g Zt rfl rfl Zg Zl rfl rfl
  refine Go.loop (fun k : Nat => [(0, .fn (.yield 1) [] []), (1, .rptr (dmA l n)), (4, .ptr 2 0), (5, .own 3 (1 + k) 8), (13, txsA l), (14, .int .i64 l.length), (15, .int .i64 i), (24, dasA (l.getD i default).l), (25, .int .i64 (l.getD i default).l.length), (26, .int .i64 k)]) (fun k => hq 4 [.arr 0 i 0 [], .none, .row ⟨38, 2, .leaf, encTx (l.getD i default), none⟩, .arr 61 8 (1 + k) (encN (val 1 (l.getD i default).t) ++ (((l.getD i default).l.take k).map nodeD).flatMap encN)]) (fun k => k ≤ (l.getD i default).l.length) (fun k => (l.getD i default).l.length - k) 0 (Nat.zero_le _) Zt rfl (fun k hk ihk => ?_)
  by_cases c1 : (k : Int) < ((l.getD i default).l.length : Int)
  ·have hkt : k < (l.getD i default).l.length := by omega
   have gk := ihk (k + 1) (by omega) (by omega)
   rw [take_succ' hkt, List.map_append, List.flatMap_append, ← Nat.add_assoc, ← List.append_assoc] at gk
   simp only [List.map_cons, List.map_nil, List.flatMap_cons, List.flatMap_nil, List.append_nil] at gk
   have ka : KOk cF 22 [.agg (encDa ((l.getD i default).l.getD k default))] (.agg (encN (nodeD ((l.getD i default).l.getD k default)))) := k22 _
   repeat' first | refine Go.seq ?_ | refine Go.region rfl ?_ | refine Ops.nil ?_ | refine Ops.val eF rfl rfl Zw (by first | exact Z1 | exact Z3 | exact Y14 | exact Y24 | exact Z5) ?_ | refine Ops.call eF rfl rfl Zw rfl rfl rfl rfl (ka) rfl ?_ | refine Ops.data eF rfl rfl Zw rfl (Hop.bslice eF rfl rfl rfl rfl rfl rfl rfl rfl rfl rfl rfl) rfl rfl ?_ | refine Ops.appendE eF rfl rfl Zw rfl rfl rfl rfl rfl rfl rfl rfl rfl rfl rfl rfl rfl rfl rfl rfl Zi rfl rfl rfl rfl rfl Zz (by omega) ?_ | refine Ops.rowAt eF 4 rfl rfl Zw rfl (Hop.alloc eF rfl rfl rfl) ?_ | refine Ops.unit eF rfl Zw (Hop.store eF rfl rfl rfl rfl rfl rfl) (ArrKeep.put rfl) ?_ | refine Go.condTt rfl Za ?_ | refine Go.block ?_ | refine Go.unblk ?_ | refine Go.skip ?_
   all_goals try simp only [Int.toNat_natCast] at *
   exact Go.toQ gk rfl eF.g Zt rfl rfl Zg Zl rfl rfl
  ·have ek : k = (l.getD i default).l.length := by omega
   subst ek
   rw [List.take_length] at *
   repeat' first | refine Go.seq ?_ | refine Go.region rfl ?_ | refine Ops.nil ?_ | refine Ops.frzMv eF 37 rfl rfl rfl Zw Z1 rfl Zi rfl rfl rfl rfl ?_ | refine Ops.callX eF lw rfl rfl Zw rfl rfl rfl rfl k3 rfl ?_ | refine Ops.val eF rfl rfl Zw Zk ?_ | refine Go.condT rfl ?_ | refine Go.condF rfl ?_ | refine Ops.yieldJ eF Zw rfl rfl rfl rfl rfl rfl rfl (by rw [hG]; exact hil) rfl rfl ?_ ?_ | refine Ops.val eF rfl rfl Zw (by first | exact Z1 | exact Z2 | exact Y14) ?_ | refine Ops.call eF rfl rfl Zw rfl rfl rfl rfl (k2) rfl ?_ | refine Ops.data eF rfl rfl Zw rfl (Hop.bslice eF rfl rfl rfl rfl rfl rfl rfl rfl rfl rfl rfl) rfl rfl ?_ | refine Go.unblk ?_ | refine Go.skip ?_ | refine Go.exit rfl ?_ | refine Go.retY rfl rfl rfl ?_
   ·exact Go.toQ g rfl eF.g Zt rfl rfl Zg Zl rfl rfl
   ·exact .inr (by rw [hG])
 ·have ei : i = l.length := by omega
  subst ei
  have k1 := k25 l n (by omega)
  have k2 : KOk cF 24 [sA [101, 110, 100], ndsA [val 1 (lastT l), val 1 n]] (.agg (encN (endN l n))) := k24 [101, 110, 100] [val 1 (lastT l), val 1 n] (by simp)
  have k3 := k23x hT (endN l n) he
  have hie := itL_end (l := l) (n := n)
  repeat' first | refine Go.seq ?_ | refine Go.region rfl ?_ | refine Ops.nil ?_ | refine Ops.val eF rfl rfl Zw Z3 ?_ | refine Go.condFt rfl Za ?_ | refine Go.exit rfl ?_
  refine Go.meet [(0, .fn (.yield 1) [] []), (10, sA (lineS (endN l n))), (11, .int .i64 0)] (hq 2 [.arr 0 l.length 0 [], .none]) ?_ (fun cont => ?_)
  ·repeat' first | refine Go.region rfl ?_ | refine Ops.nil ?_ | refine Ops.val eF rfl rfl Zw Zk ?_ | refine Go.condT rfl ?_ | refine Go.condF rfl ?_ | refine Ops.yieldJ eF Zw rfl rfl rfl rfl rfl rfl rfl (by rw [hG]; exact hie) rfl rfl ?_ ?_ | refine Ops.val eF rfl rfl Zw Z1 ?_ | refine Go.endY rfl rfl rfl ?_
   ·exact .inl (itL_len l n).symm
   ·exact .inr (by rw [hG])
  ·refine Go.anyD hm ?_
   repeat' first
    | exact Go.toHQ cont rfl eF.g Zt rfl rfl Zg Zl rfl rfl
    | refine Ops.nil ?_
    | refine Ops.val eF rfl rfl Zw (by first | exact Z1 | exact Z4 | exact Z5) ?_
    | refine Ops.call eF rfl rfl Zw rfl rfl rfl rfl (k1) rfl ?_
    | refine Ops.call eF rfl rfl Zw rfl rfl rfl rfl (k21 1 (lastT l)) rfl ?_
    | refine Ops.call eF rfl rfl Zw rfl rfl rfl rfl (k21 1 n) rfl ?_
    | refine Ops.call eF rfl rfl Zw rfl rfl rfl rfl (k2) rfl ?_
    | refine Ops.callX eF lw rfl rfl Zw rfl rfl rfl rfl k3 rfl ?_
    | refine Ops.data eF rfl rfl Zw rfl (Hop.bslice eF rfl rfl rfl rfl rfl rfl rfl rfl rfl rfl rfl) rfl rfl ?_
    | refine Go.anyEnd rfl ?_
    | refine Go.any1 rfl rfl ?_
    | refine Go.any2 rfl rfl rfl ?_ ?_
    | refine Go.any3 rfl rfl rfl rfl ?_ ?_ ?_
end Go.Px.Du
end
