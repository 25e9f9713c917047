/- Parts of the proof in YtfngmfddoaajaaaFin: FxQ, FxS, FxL, PxVf, FxR, PxVg, PxVh, PxVi, FhA, FhB, FhC, FhD, FhE, FhF, FxO, FxT, FhG, FhH, FhI, PxVj, FhJ, FhK, FhL, FhM, FhO, FhN. -/
import Derived.Test.YtfngmfddoaajaaaK4
import Derived.Shelf.Small.Bits
import Derived.Shelf.Small.Strs
import Derived.Shelf.Small.Wraps
import Derived.Shelf.Strconv.Itoa0
import Derived.Shelf.Strings.Search1
import Derived.Shelf.Sort.Plain
import Derived.Shelf.Slices.Turned
import Derived.Ground.Names2Prog
import Derived.Shelf.Slices.Clone
import Derived.Shelf.Slices.CompactS
import Derived.Shelf.Slices.SearchI
import Derived.Shelf.Slices.Cells
import Derived.Shelf.Slices.In.SortNone
import Derived.Ground.SlgnProg
import Derived.Shelf.SlicesG.SearchI
import Derived.Shelf.SlicesE.Clone
import Derived.Test.YtfngmfddoaajaaaProg
/- FxQ -/
section
set_option linter.unusedVariables false
set_option linter.unusedSimpArgs false
set_option maxHeartbeats 4000000
namespace Go.Px.Fx
open Go.Proofs
attribute [local irreducible] Go.Px.KOk
mutual
/-- a clause, and those within it -/
def Cl.pre : Cl → List Cl
  | .mk k n a o kids => .mk k n a o kids :: preL kids
def preL : List Cl → List Cl
  | [] => []
  | c :: r => c.pre ++ preL r
end
theorem Cl.pre_eq (c : Cl) : c.pre = c :: preL c.kids := by cases c; rfl
theorem preL_app : ∀ a b : List Cl, preL (a ++ b) = preL a ++ preL b
  | [], b => rfl
  | c :: a, b => by
    have := preL_app a b
    simp only [List.cons_append, preL, this, List.append_assoc]
theorem preL_succ {l : List Cl} {i : Nat} (h : i < l.length) : preL (l.take (i + 1)) = preL (l.take i) ++ (l.getD i default).pre := by
  rw [take_succ' h, preL_app]; simp [preL]
def itemC (c : Cl) : List AV := [.agg (encF c)]
theorem item_at {l : List Cl} {j : Nat} {v : List AV} (h : (l.map itemC)[j]? = some v) : j < l.length ∧ v = itemC (l.getD j default) := by
  rw [List.getElem?_map] at h
  by_cases hj : j < l.length
  · rw [List.getElem?_eq_getElem hj] at h
    refine ⟨hj, ?_⟩
    rw [List.getD_eq_getElem?_getD, List.getElem?_eq_getElem hj]
    exact (Option.some.inj h).symm
  · rw [List.getElem?_eq_none (by omega)] at h; cases h
/-- the i-th, among all -/
theorem pre_head {l : List Cl} {i : Nat} (h : i < l.length) : (preL (l.take i)).length + 1 + (preL (l.getD i default).kids).length = (preL (l.take (i + 1))).length ∧ (preL (l.take (i + 1))).length ≤ (preL l).length := by
  constructor
  · rw [preL_succ h, List.length_append, Cl.pre_eq, List.length_cons]; omega
  · have := preL_app (l.take (i + 1)) (l.drop (i + 1))
    rw [List.take_append_drop] at this
    rw [this, List.length_append]; omega
theorem pre_at {l : List Cl} {i j : Nat} (h : i < l.length) (hj : j < (preL (l.getD i default).kids).length + 1) : (preL l)[(preL (l.take i)).length + j]? = (l.getD i default).pre[j]? := by
  have e := preL_app (l.take (i + 1)) (l.drop (i + 1))
  rw [List.take_append_drop, preL_succ h] at e
  have hl : (l.getD i default).pre.length = (preL (l.getD i default).kids).length + 1 := by rw [Cl.pre_eq]; rfl
  rw [e, List.getElem?_append_left (by rw [List.length_append]; omega), List.getElem?_append_right (by omega), Nat.add_sub_cancel_left]
theorem it_head {l : List Cl} {i : Nat} (h : i < l.length) : ((preL l).map itemC)[(preL (l.take i)).length]? = some [.agg (encF (l.getD i default))] := by
  have := pre_at (j := 0) h (by omega)
  rw [Nat.add_zero, Cl.pre_eq] at this
  rw [List.getElem?_map, this]; rfl
theorem it_kid {l : List Cl} {i j : Nat} (h : i < l.length) (hj : j < (preL (l.getD i default).kids).length) : ((preL l).map itemC)[(preL (l.take i)).length + 1 + j]? = some [.agg (encF ((preL (l.getD i default).kids).getD j default))] := by
  have := pre_at (j := 1 + j) h (by omega)
  rw [← Nat.add_assoc, Cl.pre_eq, Nat.add_comm 1 j, List.getElem?_cons_succ, List.getElem?_eq_getElem hj] at this
  have e : (preL (l.getD i default).kids).getD j default = (preL (l.getD i default).kids)[j] := by rw [List.getD_eq_getElem?_getD, List.getElem?_eq_getElem hj]; rfl
  rw [List.getElem?_map, this, e]; rfl
theorem k32 (l : List Cl) : KOk cF 32 [clsA l] (.fn (.func 48) [] [.rptr [clsA l]]) := by
  refine KOk.of cF_ok eF.g Try.func32 rfl (Nat.le_of_ble_eq_true rfl) fun w F => ?_
  repeat' first | refine Go.seq ?_ | refine Go.region rfl ?_ | refine Ops.nil ?_ | refine Ops.val eF rfl rfl (by first | exact Want.no rfl | exact Want.tT rfl rfl rfl rfl | exact Want.fF rfl rfl rfl rfl) (by first | exact Hop.assign rfl rfl | exact Hop.makeFunc rfl rfl rfl) ?_ | refine Ops.boxR eF rfl rfl (by first | exact Want.no rfl | exact Want.tT rfl rfl rfl rfl | exact Want.fF rfl rfl rfl rfl) rfl rfl rfl rfl ?_ | refine Go.retF rfl ?_ rfl
  all_goals rfl
theorem it48 : ∀ (N : Nat) (l : List Cl), cntL l < N → cntL l ≤ 100000 → KIt cF 48 [.rptr [clsA l]] ((preL l).map itemC) := by
  intro N
  induction N with
  | zero => intro l hN; omega
  | succ N IH =>
  intro l hN hb
  have hlen := cntL_len l
  rw [clsA_eq]
  refine KIt.of cF_ok eF.g Try.func48 rfl rfl fun w F opn G gx hG => ?_
  repeat' first | refine Go.seq ?_ | refine Go.region rfl ?_ | refine Ops.nil ?_ | refine Ops.val eF rfl rfl (by first | exact Want.no rfl | exact Want.tT rfl rfl rfl rfl | exact Want.fF rfl rfl rfl rfl) (by first | exact Hop.move rfl rfl | exact Hop.ldR eF rfl rfl rfl rfl rfl | exact Hop.lenD eF rfl rfl rfl rfl rfl rfl rfl) ?_ | refine Ops.rowAt eF 2 rfl rfl (by first | exact Want.no rfl | exact Want.tT rfl rfl rfl rfl | exact Want.fF rfl rfl rfl rfl) rfl (Hop.boxC rfl rfl rfl) ?_ | refine Go.block ?_
  refine Go.toHQ (N := 3) (bs := [.arr 0 0 0 [], .none, .row ⟨80, 1, .leaf, [.fn (.yield 1) [] []], none⟩]) (L' := [(1, .rptr [dsl 5 encF l]), (2, .ptr 2 0), (6, dsl 5 encF l), (7, .int .i64 l.length), (8, .int .i64 0)]) ?_ rfl eF.g ⟨rfl, rfl, rfl, rfl, rfl, trivial⟩ rfl rfl ⟨.inr rfl, .inl rfl, .inr rfl, trivial⟩ ⟨trivial, trivial, low_row rfl rfl, trivial⟩ rfl rfl
  refine Go.loopB (TT := l.length) (NN := 3) (N := ((preL l).map itemC).length) rfl eF.g (fun i => [(1, .rptr [dsl 5 encF l]), (2, .ptr 2 0), (6, dsl 5 encF l), (7, .int .i64 l.length), (8, .int .i64 i)]) (fun i => [.arr 0 (preL (l.take i)).length 0 [], .none, .row ⟨80, 1, .leaf, [.fn (.yield 1) [] []], none⟩]) (fun _ => rfl) (fun _ => ⟨trivial, trivial, low_row rfl rfl, trivial⟩) (fun _ => rfl) (fun _ => rfl) rfl rfl (fun _ => ⟨_, _, _, _, rfl⟩) ⟨rfl, rfl, rfl, rfl, rfl, trivial⟩ rfl (fun i hi b => ?_)
  have hk := k32 (l.getD i default).kids
  repeat' first | refine Go.seq ?_ | refine Go.region rfl ?_ | refine Ops.nil ?_ | refine Ops.val (d := 13) (v := .agg (encF (l.getD i default))) eF rfl rfl (by first | exact Want.no rfl | exact Want.tT rfl rfl rfl rfl | exact Want.fF rfl rfl rfl rfl) (by exact Hop.ldPG eF rfl rfl rfl rfl rfl rfl rfl) ?_ | refine Ops.yieldJ eF (by first | exact Want.no rfl | exact Want.tT rfl rfl rfl rfl | exact Want.fF rfl rfl rfl rfl) rfl rfl rfl rfl rfl rfl rfl (by rw [hG]; exact it_head (by omega)) rfl rfl ?_ ?_ | refine Ops.val eF rfl rfl (by first | exact Want.no rfl | exact Want.tT rfl rfl rfl rfl | exact Want.fF rfl rfl rfl rfl) (by first | exact Hop.not rfl rfl | exact Hop.lss rfl rfl rfl | exact Hop.faP eF rfl rfl rfl rfl rfl rfl rfl | exact Hop.idx eF rfl rfl rfl rfl rfl rfl rfl (fun _ => rfl) (by omega) | exact Hop.ldRG eF rfl rfl rfl rfl rfl | exact Hop.ldP eF rfl rfl rfl rfl rfl rfl rfl) ?_ | refine Ops.call eF rfl rfl (by first | exact Want.no rfl | exact Want.tT rfl rfl rfl rfl | exact Want.fF rfl rfl rfl rfl) rfl rfl rfl rfl (hk) rfl ?_ | refine Ops.rowAt eF 3 rfl rfl (by first | exact Want.no rfl | exact Want.tT rfl rfl rfl rfl | exact Want.fF rfl rfl rfl rfl) rfl (Hop.alloc eF rfl rfl rfl) ?_ | refine Ops.unit eF rfl (by first | exact Want.no rfl | exact Want.tT rfl rfl rfl rfl | exact Want.fF rfl rfl rfl rfl) (Hop.store eF rfl rfl rfl rfl rfl rfl) (ArrKeep.put rfl) ?_ | refine Go.condT rfl ?_ | refine Go.condF rfl ?_ | refine Go.condPt rfl (fun _ => ?_) (fun _ => ?_) | refine Go.block ?_ | refine Go.skip ?_
  case succ.refine_1.refine_2 => exact Go.retB ⟨⟨_, _, _, _, rfl, .inr (by rw [hG])⟩, (fun _ q => by cases q), List.nodup_nil, rfl⟩
  case succ.refine_2 =>
    refine Go.endB rfl ?_
    refine ⟨⟨_, _, _, _, rfl, .inl ?_⟩, (fun _ q => by cases q), List.nodup_nil, rfl⟩
    rw [List.length_map, show i = l.length by omega, List.take_length]
  rename_i hlt
  have hlt : i < l.length := by omega
  obtain ⟨hp1, hp2⟩ := pre_head hlt
  have hc := cntL_at (l := l) (i := i) hlt
  rw [Cl.cnt_eq] at hc
  refine Go.to (M := [(2, .ptr 2 0), (1, .rptr [dsl 5 encF l]), (6, dsl 5 encF l), (7, .int .i64 l.length), (8, .int .i64 i), (18, .fn (.func 48) [] [.rptr [clsA (l.getD i default).kids]])]) ?_ ⟨rfl, rfl, rfl, rfl, rfl, rfl, trivial⟩
  refine Go.rangeK eF 4 rfl rfl rfl (IH (l.getD i default).kids (by omega) (by omega)) rfl (fun j => hq 5 [.arr 0 ((preL (l.take i)).length + 1 + j) 0 [], .none, .row ⟨80, 1, .leaf, [.fn (.yield 1) [] []], none⟩, .none, .dfr true])
    (fun b => ChgE.cut _ rfl eF.g rfl ⟨.inr rfl, .inl rfl, .inr rfl, .inl rfl, .inr rfl, trivial⟩ ⟨trivial, trivial, low_row rfl rfl, trivial, trivial, trivial⟩) (fun j v hv => by rw [(item_at hv).2]; rfl) rfl (fun j v hv b2 => ?_) ?_
  · obtain ⟨hj, rfl⟩ := item_at hv
    repeat' first | refine Go.region rfl ?_ | refine Ops.nil ?_ | refine Ops.rowAt eF 5 rfl rfl (by first | exact Want.no rfl | exact Want.tT rfl rfl rfl rfl | exact Want.fF rfl rfl rfl rfl) rfl (Hop.alloc eF rfl rfl rfl) ?_ | refine Ops.unit eF rfl (by first | exact Want.no rfl | exact Want.tT rfl rfl rfl rfl | exact Want.fF rfl rfl rfl rfl) (Hop.store eF rfl rfl rfl rfl rfl rfl) (ArrKeep.put rfl) ?_
    refine Go.bodyK (fun b3 => ?_)
    repeat' first | refine Go.seq ?_ | refine Go.region rfl ?_ | refine Ops.nil ?_ | refine Ops.val (d := 21) (v := .agg (encF ((preL (l.getD i default).kids).getD j default))) eF rfl rfl (by first | exact Want.no rfl | exact Want.tT rfl rfl rfl rfl | exact Want.fF rfl rfl rfl rfl) (by exact Hop.ldPG eF rfl rfl rfl rfl rfl rfl rfl) ?_ | refine Ops.yieldJ eF (by first | exact Want.no rfl | exact Want.tT rfl rfl rfl rfl | exact Want.fF rfl rfl rfl rfl) rfl rfl rfl rfl rfl rfl rfl (by rw [hG]; exact it_kid hlt hj) rfl rfl ?_ ?_ | refine Ops.val eF rfl rfl (by first | exact Want.no rfl | exact Want.tT rfl rfl rfl rfl | exact Want.fF rfl rfl rfl rfl) (by first | exact Hop.not rfl rfl | exact Hop.ldP eF rfl rfl rfl rfl rfl rfl rfl) ?_ | refine Go.condT rfl ?_ | refine Go.condF rfl ?_ | refine Go.block ?_ | refine Go.unblk ?_ | refine Go.skip ?_
    · exact Go.nextK (ChgE.cut _ rfl eF.g rfl ⟨.inr rfl, .inl rfl, .inr rfl, .inl rfl, .inr rfl, trivial⟩ ⟨trivial, trivial, low_row rfl rfl, trivial, trivial, trivial⟩)
    · exact Go.stopR fun e he => ⟨⟨_, _, _, _, rfl, .inr (by rw [hG])⟩, (fun d q => by cases List.mem_singleton.1 q; rfl), by simp, rfl⟩
  · repeat' first | refine Go.region rfl ?_ | refine Ops.nil ?_ | refine Ops.val eF rfl rfl (by first | exact Want.no rfl | exact Want.tT rfl rfl rfl rfl | exact Want.fF rfl rfl rfl rfl) (by first | exact Hop.move rfl rfl | exact Hop.add rfl rfl rfl (by omega)) ?_ | refine Go.unblk ?_
    refine Go.nextB (by omega) ⟨rfl, rfl, rfl, rfl, rfl, trivial⟩ ⟨.inr ?_, .inl rfl, .inr rfl, trivial⟩ rfl (fun d q => by cases List.mem_singleton.1 q; exact ⟨by omega, rfl⟩) (by simp)
    rw [← hp1]; simp only [List.length_map]; rfl
end Go.Px.Fx
end
/- FxS -/
section
namespace Go.Proofs
open Go.Shelf
def Try.lays213_ren : Go.Shelf.Ren := ⟨fun | 213 => 55 | 265 => 71 | n => n, fun | 9 => 9 | 3 => 3 | n => n, fun | n => n⟩
theorem Try.lays213 : Go.Proofs.Lays.n213 Try.prog Try.lays213_ren := {
  mixed := by kernel_rfl
  f213 := Try.func55.trans (congrArg some (by kernel_rfl))
  f265 := Try.func71.trans (congrArg some (by kernel_rfl))
  t3 := Try.underlying3
  a3 := Try.isAgg3
  z3 := Try.sizeOf3
  v3 := Try.zeroValue3
  t9 := Try.underlying9
  a9 := Try.isAgg9
  z9 := Try.sizeOf9
  v9 := Try.zeroValue9 }
open Go.RowKit in
/-- internal/bytealg.CompareString (what strings.Compare calls): IT RETURNS 'Lib.compareBytes a b'; the world is as it was. (LAID: no walk: one application.) -/
theorem Try.bytealg_CompareString (a b : ByteArray) (w : World) :
    Calls Try.prog 55 #[.string a, .string b] w fun e w' => e = .returned (.int .i64 (Lib.compareBytes a.data.toList b.data.toList)) ∧ w' = w := Any.bytealg_CompareString Try.lays213 a b w
def Try.lays106_ren : Go.Shelf.Ren := ⟨fun | 106 => 41 | 213 => 55 | 265 => 71 | n => n, fun | 9 => 9 | 3 => 3 | n => n, fun | n => n⟩
theorem Try.lays106 : Go.Proofs.Lays.n106 Try.prog Try.lays106_ren := {
  mixed := by kernel_rfl
  f106 := Try.func41.trans (congrArg some (by kernel_rfl))
  f213 := Try.func55.trans (congrArg some (by kernel_rfl))
  f265 := Try.func71.trans (congrArg some (by kernel_rfl))
  t3 := Try.underlying3
  a3 := Try.isAgg3
  z3 := Try.sizeOf3
  v3 := Try.zeroValue3
  t9 := Try.underlying9
  a9 := Try.isAgg9
  z9 := Try.sizeOf9
  v9 := Try.zeroValue9 }
open Go.RowKit in
/-- strings.Compare: "Compare returns an integer comparing two strings lexicographically. The result will be 0 if a == b, -1 if a < b, and +1 if a > b.": IT RETURNS 'Lib.compareBytes a b'; the world is as it was. (LAID: no walk: one application.) -/
theorem Try.strings_Compare (a b : ByteArray) (w : World) :
    Calls Try.prog 41 #[.string a, .string b] w fun e w' => e = .returned (.int .i64 (Lib.compareBytes a.data.toList b.data.toList)) ∧ w' = w := Any.strings_Compare Try.lays106 a b w
def Try.lays137_ren : Go.Shelf.Ren := ⟨fun | 137 => 60 | 217 => 73 | 266 => 80 | n => n, fun | 9 => 9 | 5 => 5 | 3 => 3 | n => n, fun | n => n⟩
theorem Try.lays137 : Go.Proofs.Lays.n137 Try.prog Try.lays137_ren := {
  mixed := by kernel_rfl
  f137 := Try.func60.trans (congrArg some (by kernel_rfl))
  f217 := Try.func73.trans (congrArg some (by kernel_rfl))
  f266 := Try.func80.trans (congrArg some (by kernel_rfl))
  t3 := Try.underlying3
  a3 := Try.isAgg3
  z3 := Try.sizeOf3
  v3 := Try.zeroValue3
  t5 := Try.underlying5
  a5 := Try.isAgg5
  z5 := Try.sizeOf5
  v5 := Try.zeroValue5
  t9 := Try.underlying9
  a9 := Try.isAgg9
  z9 := Try.sizeOf9
  v9 := Try.zeroValue9 }
open Go.RowKit in
/-- strings.IndexByte: "IndexByte returns the index of the first instance of c in s, or -1 if c is not present in s.": IT RETURNS 'Lib.indexByte s c'; the world is as it was. (LAID: no walk: one application.) -/
theorem Try.strings_IndexByte (s : ByteArray) (c : Int) (w : World) :
    Calls Try.prog 60 #[.string s, .int .u8 c] w fun e w' => e = .returned (.int .i64 (Lib.indexByte s.data.toList c.toNat.toUInt8)) ∧ w' = w := Any.strings_IndexByte Try.lays137 s c w
def Try.lays215_ren : Go.Shelf.Ren := ⟨fun | 215 => 53 | n => n, fun | 3 => 3 | 4 => 4 | n => n, fun | n => n⟩
theorem Try.lays215 : Go.Proofs.Lays.n215 Try.prog Try.lays215_ren := {
  mixed := by kernel_rfl
  f215 := Try.func53.trans (congrArg some (by kernel_rfl))
  t3 := Try.underlying3
  a3 := Try.isAgg3
  z3 := Try.sizeOf3
  v3 := Try.zeroValue3
  t4 := Try.underlying4
  a4 := Try.isAgg4
  z4 := Try.sizeOf4
  v4 := Try.zeroValue4 }
open Go.RowKit in
/-- cmp.isNaN at int: 'x != x': false. (LAID: no walk: one application.) -/
theorem Try.cmp_isNaN_int (x : Int) (w : World) :
    Calls Try.prog 53 #[.int .i64 x] w fun e w' => e = .returned (.bool false) ∧ w' = w := Any.cmp_isNaN_int Try.lays215 x w
def Try.lays122_ren : Go.Shelf.Ren := ⟨fun | 122 => 39 | 215 => 53 | n => n, fun | 3 => 3 | 4 => 4 | n => n, fun | n => n⟩
theorem Try.lays122 : Go.Proofs.Lays.n122 Try.prog Try.lays122_ren := {
  mixed := by kernel_rfl
  f122 := Try.func39.trans (congrArg some (by kernel_rfl))
  f215 := Try.func53.trans (congrArg some (by kernel_rfl))
  t3 := Try.underlying3
  a3 := Try.isAgg3
  z3 := Try.sizeOf3
  v3 := Try.zeroValue3
  t4 := Try.underlying4
  a4 := Try.isAgg4
  z4 := Try.sizeOf4
  v4 := Try.zeroValue4 }
open Go.RowKit in
/-- cmp.Compare at int: "Compare returns -1 if x is less than y, 0 if x equals y, +1 if x is greater than y.": IT RETURNS 'Lib.compareInt x y'; the world is as it was. (LAID: no walk: one application.) -/
theorem Try.cmp_Compare_int (x y : Int) (w : World) :
    Calls Try.prog 39 #[.int .i64 x, .int .i64 y] w fun e w' => e = .returned (.int .i64 (Lib.compareInt x y)) ∧ w' = w := Any.cmp_Compare_int Try.lays122 x y w
def Try.lays217_ren : Go.Shelf.Ren := ⟨fun | 217 => 73 | 266 => 80 | n => n, fun | 9 => 9 | 5 => 5 | 3 => 3 | n => n, fun | n => n⟩
theorem Try.lays217 : Go.Proofs.Lays.n217 Try.prog Try.lays217_ren := {
  mixed := by kernel_rfl
  f217 := Try.func73.trans (congrArg some (by kernel_rfl))
  f266 := Try.func80.trans (congrArg some (by kernel_rfl))
  t3 := Try.underlying3
  a3 := Try.isAgg3
  z3 := Try.sizeOf3
  v3 := Try.zeroValue3
  t5 := Try.underlying5
  a5 := Try.isAgg5
  z5 := Try.sizeOf5
  v5 := Try.zeroValue5
  t9 := Try.underlying9
  a9 := Try.isAgg9
  z9 := Try.sizeOf9
  v9 := Try.zeroValue9 }
open Go.RowKit Go.Lib in
/-- internal/stringslite.IndexByte (what strings.IndexByte calls): IT RETURNS 'Lib.indexByte s c'; the world is as it was. (LAID: no walk: one application.) -/
theorem Try.stringslite_IndexByte (s : ByteArray) (c : Int) (w : World) :
    Calls Try.prog 73 #[.string s, .int .u8 c] w fun e w' => e = .returned (.int .i64 (Lib.indexByte s.data.toList c.toNat.toUInt8)) ∧ w' = w := Any.stringslite_IndexByte Try.lays217 s c w
def Try.lays190_ren : Go.Shelf.Ren := ⟨fun | 190 => 34 | 125 => 51 | 258 => 50 | 128 => 69 | 129 => 70 | 302 => 61 | 303 => 62 | 304 => 63 | 305 => 64 | 306 => 65 | 307 => 66 | 308 => 36 | 309 => 67 | 310 => 68 | 333 => 74 | 329 => 75 | 330 => 76 | 334 => 77 | 335 => 78 | 336 => 52 | 344 => 81 | n => n, fun | 31 => 25 | 9 => 9 | 3 => 3 | 46 => 69 | 0 => 0 | 51 => 96 | 53 => 98 | 4 => 4 | 183 => 90 | 182 => 89 | 131 => 51 | 5 => 5 | 218 => 99 | 222 => 103 | 228 => 106 | 229 => 107 | n => n, fun | n => n⟩
theorem Try.lays190 : Go.Proofs.Lays.n190 Try.prog Try.lays190_ren := {
  mixed := by kernel_rfl
  f125 := Try.func51.trans (congrArg some (by kernel_rfl))
  f128 := Try.func69.trans (congrArg some (by kernel_rfl))
  f129 := Try.func70.trans (congrArg some (by kernel_rfl))
  f190 := Try.func34.trans (congrArg some (by kernel_rfl))
  f258 := Try.func50.trans (congrArg some (by kernel_rfl))
  f302 := Try.func61.trans (congrArg some (by kernel_rfl))
  f303 := Try.func62.trans (congrArg some (by kernel_rfl))
  f304 := Try.func63.trans (congrArg some (by kernel_rfl))
  f305 := Try.func64.trans (congrArg some (by kernel_rfl))
  f306 := Try.func65.trans (congrArg some (by kernel_rfl))
  f307 := Try.func66.trans (congrArg some (by kernel_rfl))
  f308 := Try.func36.trans (congrArg some (by kernel_rfl))
  f309 := Try.func67.trans (congrArg some (by kernel_rfl))
  f310 := Try.func68.trans (congrArg some (by kernel_rfl))
  f329 := Try.func75.trans (congrArg some (by kernel_rfl))
  f330 := Try.func76.trans (congrArg some (by kernel_rfl))
  f333 := Try.func74.trans (congrArg some (by kernel_rfl))
  f334 := Try.func77.trans (congrArg some (by kernel_rfl))
  f335 := Try.func78.trans (congrArg some (by kernel_rfl))
  f336 := Try.func52.trans (congrArg some (by kernel_rfl))
  f344 := Try.func81.trans (congrArg some (by kernel_rfl))
  t0 := Try.underlying0
  a0 := Try.isAgg0
  z0 := Try.sizeOf0
  v0 := Try.zeroValue0
  t3 := Try.underlying3
  a3 := Try.isAgg3
  z3 := Try.sizeOf3
  v3 := Try.zeroValue3
  t4 := Try.underlying4
  a4 := Try.isAgg4
  z4 := Try.sizeOf4
  v4 := Try.zeroValue4
  t5 := Try.underlying5
  a5 := Try.isAgg5
  z5 := Try.sizeOf5
  v5 := Try.zeroValue5
  t9 := Try.underlying9
  a9 := Try.isAgg9
  z9 := Try.sizeOf9
  v9 := Try.zeroValue9
  t31 := Try.underlying25
  a31 := Try.isAgg25
  z31 := Try.sizeOf25
  v31 := Try.zeroValue25
  t46 := Try.underlying69
  a46 := Try.isAgg69
  z46 := Try.sizeOf69
  v46 := Try.zeroValue69
  t51 := Try.underlying96
  a51 := Try.isAgg96
  z51 := Try.sizeOf96
  v51 := Try.zeroValue96
  t53 := Try.underlying98
  a53 := Try.isAgg98
  z53 := Try.sizeOf98
  v53 := Try.zeroValue98
  t131 := Try.underlying51
  a131 := Try.isAgg51
  z131 := Try.sizeOf51
  v131 := Try.zeroValue51
  t182 := Try.underlying89
  a182 := Try.isAgg89
  z182 := Try.sizeOf89
  v182 := Try.zeroValue89
  t183 := Try.underlying90
  a183 := Try.isAgg90
  z183 := Try.sizeOf90
  v183 := Try.zeroValue90
  t218 := Try.underlying99
  a218 := Try.isAgg99
  z218 := Try.sizeOf99
  v218 := Try.zeroValue99
  t222 := Try.underlying103
  a222 := Try.isAgg103
  z222 := Try.sizeOf103
  v222 := Try.zeroValue103
  t228 := Try.underlying106
  a228 := Try.isAgg106
  z228 := Try.sizeOf106
  v228 := Try.zeroValue106
  t229 := Try.underlying107
  a229 := Try.isAgg107
  z229 := Try.sizeOf107
  v229 := Try.zeroValue107 }
open Go.Sort Go.RowKit in
theorem Try.slices_Sort_string (blk off cap : Nat) (ss : List (List UInt8)) (w : World) (hH : Holds encStr w blk off ss.toArray) (hblk : blk < w.heap.size) (hsz : ss.length < 4611686018427387904) :
    Calls Try.prog 34 #[.slice (some ⟨blk, off, none⟩) ss.length cap] w fun e w' =>
      e = .returned (.tuple #[]) ∧ ∃ n os, w' = grow (putRow encStr (Sort.ahead w n) blk off (ss.mergeSort fun x y => decide (x ≤ y)).toArray) os := Any.slices_Sort_string Try.lays190 blk off cap ss w hH hblk hsz
def Try.lays109_ren : Go.Shelf.Ren := ⟨fun | 109 => 47 | n => n, fun | 31 => 25 | 9 => 9 | 3 => 3 | 0 => 0 | 4 => 4 | n => n, fun | n => n⟩
theorem Try.lays109 : Go.Proofs.Lays.n109 Try.prog Try.lays109_ren := {
  mixed := by kernel_rfl
  f109 := Try.func47.trans (congrArg some (by kernel_rfl))
  t0 := Try.underlying0
  a0 := Try.isAgg0
  z0 := Try.sizeOf0
  v0 := Try.zeroValue0
  t3 := Try.underlying3
  a3 := Try.isAgg3
  z3 := Try.sizeOf3
  v3 := Try.zeroValue3
  t4 := Try.underlying4
  a4 := Try.isAgg4
  z4 := Try.sizeOf4
  v4 := Try.zeroValue4
  t9 := Try.underlying9
  a9 := Try.isAgg9
  z9 := Try.sizeOf9
  v9 := Try.zeroValue9
  t31 := Try.underlying25
  a31 := Try.isAgg25
  z31 := Try.sizeOf25
  v31 := Try.zeroValue25 }
open Go.Lib in
/-- slices.Index at []string: "Index returns the index of the first occurrence of v in s, or -1 if not present.": IT RETURNS 'Lib.idxOfS (the elements) v'; the world is as it was. 'zs': what the cells behind the slice's address hold (its spare capacity too, if you have it); 'zs.take n': its elements. (LAID: no walk: one application.) -/
theorem Try.slices_Index_string (b off n c : Nat) (zs : List ByteArray) (x : ByteArray) (w : World) (hz : n ≤ zs.length) (hbig : n ≤ 9223372036854775807) (hc : ∀ j, j < zs.length → w.cell? ⟨b, off + j, none⟩ = some (.string (zs.getD j ByteArray.empty))) :
    Calls Try.prog 47 #[.slice (some ⟨b, off, none⟩) n c, .string x] w fun e w' => e = .returned (.int .i64 (Lib.idxOfS (zs.take n) x)) ∧ w' = w := Any.slices_Index_string Try.lays109 b off n c zs x w hz hbig hc
open Go.Lib in
/-- The same at a slice of length 0, a nil one too: no cell is known, none is asked for. (LAID: no walk: one application.) -/
theorem Try.slices_Index_string_empty (a : Option Addr) (c : Nat) (x : ByteArray) (w : World) :
    Calls Try.prog 47 #[.slice a 0 c, .string x] w fun e w' => e = .returned (.int .i64 (Lib.idxOfS [] x)) ∧ w' = w := Any.slices_Index_string_empty Try.lays109 a c x w
def Try.lays110_ren : Go.Shelf.Ren := ⟨fun | 110 => 29 | 109 => 47 | n => n, fun | 31 => 25 | 9 => 9 | 4 => 4 | 3 => 3 | 0 => 0 | n => n, fun | n => n⟩
theorem Try.lays110 : Go.Proofs.Lays.n110 Try.prog Try.lays110_ren := {
  mixed := by kernel_rfl
  f109 := Try.func47.trans (congrArg some (by kernel_rfl))
  f110 := Try.func29.trans (congrArg some (by kernel_rfl))
  t0 := Try.underlying0
  a0 := Try.isAgg0
  z0 := Try.sizeOf0
  v0 := Try.zeroValue0
  t3 := Try.underlying3
  a3 := Try.isAgg3
  z3 := Try.sizeOf3
  v3 := Try.zeroValue3
  t4 := Try.underlying4
  a4 := Try.isAgg4
  z4 := Try.sizeOf4
  v4 := Try.zeroValue4
  t9 := Try.underlying9
  a9 := Try.isAgg9
  z9 := Try.sizeOf9
  v9 := Try.zeroValue9
  t31 := Try.underlying25
  a31 := Try.isAgg25
  z31 := Try.sizeOf25
  v31 := Try.zeroValue25 }
open Go.Lib in
/-- slices.Contains at []string: "Contains reports whether v is present in s.": IT RETURNS 'Lib.containsS (the elements) v', which is true just where v is among them ('Lib.containsS_iff'); the world is as it was. ITS CALLEE slices.Index IS MET BY ITS OWN CONTRACT OFF THE SHELF (lay that first): no loop is walked here. (LAID: no walk: one application.) -/
theorem Try.slices_Contains_string (b off n c : Nat) (zs : List ByteArray) (x : ByteArray) (w : World) (hz : n ≤ zs.length) (hbig : n ≤ 9223372036854775807) (hc : ∀ j, j < zs.length → w.cell? ⟨b, off + j, none⟩ = some (.string (zs.getD j ByteArray.empty))) :
    Calls Try.prog 29 #[.slice (some ⟨b, off, none⟩) n c, .string x] w fun e w' => e = .returned (.bool (Lib.containsS (zs.take n) x)) ∧ w' = w := Any.slices_Contains_string Try.lays110 b off n c zs x w hz hbig hc
open Go.Lib in
/-- The same at a slice of length 0, a nil one too. (LAID: no walk: one application.) -/
theorem Try.slices_Contains_string_empty (a : Option Addr) (c : Nat) (x : ByteArray) (w : World) :
    Calls Try.prog 29 #[.slice a 0 c, .string x] w fun e w' => e = .returned (.bool false) ∧ w' = w := Any.slices_Contains_string_empty Try.lays110 a c x w
def Try.laysNm216_ren : Go.Shelf.Ren := ⟨fun | 16 => 25 | n => n, fun | 24 => 25 | 9 => 9 | 4 => 4 | n => n, fun | n => n⟩
theorem Try.laysNm216 : Go.Proofs.Lays2.n16 Try.prog Try.laysNm216_ren := {
  mixed := by kernel_rfl
  f16 := Try.func25.trans (congrArg some (by kernel_rfl))
  t4 := Try.underlying4
  a4 := Try.isAgg4
  z4 := Try.sizeOf4
  v4 := Try.zeroValue4
  t9 := Try.underlying9
  a9 := Try.isAgg9
  z9 := Try.sizeOf9
  v9 := Try.zeroValue9
  t24 := Try.underlying25
  a24 := Try.isAgg25
  z24 := Try.sizeOf25
  v24 := Try.zeroValue25
  i9 := by kernel_rfl }
open Go.RowKit Go.Lib in
/-- slices.Clone at []string: "Clone returns a copy of the slice. The elements are copied using assignment, so this is a shallow clone. The result may have additional unused capacity. The result preserves the nilness of s.": OF A SLICE THAT IS NOT nil IT RETURNS A SLICE THAT IS NOT nil, OF THE SAME ELEMENTS, IN MEMORY OF THE CALL's OWN: in the how-to's words (6f): 'w'.ownsRow B e 1 v' n cells': v' begins at the head of a row among the blocks from B on (B: the heap's size at the call), not frozen, whose first cells are the elements · 'Below B w w'': below B all is as it was. The capacity is whatever the run-time gives. 'zs': what the cells behind the slice's address hold; 'zs.take n': its elements. (LAID: no walk: one application.) -/
theorem Try.slices_Clone_string (b off n c : Nat) (zs : List ByteArray) (w : World) (hz : n ≤ zs.length) (hbig : n * 16 ≤ 140737488355328) (hc : ∀ j, j < zs.length → w.cell? ⟨b, off + j, none⟩ = some (.string (zs.getD j ByteArray.empty))) :
    Calls Try.prog 25 #[.slice (some ⟨b, off, none⟩) n c] w fun e w' => ∃ v', e = .returned v' ∧ w'.ownsRow w.heap.size 9 1 v' n ((zs.take n).map (Value.string)) ∧ v' ≠ .slice none 0 0 ∧ Below w.heap.size w w' := Any.slices_Clone_string Try.laysNm216 b off n c zs w hz hbig hc
open Go.RowKit Go.Lib in
/-- The same at nil: nil comes back; the world is as it was. (LAID: no walk: one application.) -/
theorem Try.slices_Clone_string_nil (n c : Nat) (w : World) :
    Calls Try.prog 25 #[.slice none n c] w fun e w' => e = .returned (.slice none 0 0) ∧ w' = w := Any.slices_Clone_string_nil Try.laysNm216 n c w
open Go.RowKit Go.Lib in
/-- The same at a slice of length 0 that is not nil, WHATEVER ITS ADDRESS (no cell is asked for): a slice that is not nil and owns nothing comes back. (LAID: no walk: one application.) -/
theorem Try.slices_Clone_string_zero (a : Addr) (c : Nat) (w : World) :
    Calls Try.prog 25 #[.slice (some a) 0 c] w fun e w' => ∃ v', e = .returned v' ∧ w'.ownsRow w.heap.size 9 1 v' 0 [] ∧ v' ≠ .slice none 0 0 ∧ Below w.heap.size w w' := Any.slices_Clone_string_zero Try.laysNm216 a c w
def Try.lays194_ren : Go.Shelf.Ren := ⟨fun | 194 => 35 | n => n, fun | 31 => 25 | 9 => 9 | 3 => 3 | 4 => 4 | 0 => 0 | n => n, fun | n => n⟩
theorem Try.lays194 : Go.Proofs.Lays.n194 Try.prog Try.lays194_ren := {
  mixed := by kernel_rfl
  f194 := Try.func35.trans (congrArg some (by kernel_rfl))
  t0 := Try.underlying0
  a0 := Try.isAgg0
  z0 := Try.sizeOf0
  v0 := Try.zeroValue0
  t3 := Try.underlying3
  a3 := Try.isAgg3
  z3 := Try.sizeOf3
  v3 := Try.zeroValue3
  t4 := Try.underlying4
  a4 := Try.isAgg4
  z4 := Try.sizeOf4
  v4 := Try.zeroValue4
  t9 := Try.underlying9
  a9 := Try.isAgg9
  z9 := Try.sizeOf9
  v9 := Try.zeroValue9
  t31 := Try.underlying25
  a31 := Try.isAgg25
  z31 := Try.sizeOf25
  v31 := Try.zeroValue25 }
open Go.RowKit Go.Lib Go.Sort in
/-- slices.Compact at []string, over an array: the library's two loops are walked. (LAID: no walk: one application.) -/
theorem Try.slices_Compact_string_arr (blk off cap : Nat) (d : Array (List UInt8)) (w : World) (hH : Holds encStr w blk off d) (hsz : d.size ≤ 9223372036854775807) (hcap : d.size ≤ cap) :
    Calls Try.prog 35 #[.slice (some ⟨blk, off, none⟩) d.size cap] w fun e w' => e = .returned (.slice (some ⟨blk, off, none⟩) (compactUpTo d d.size).length cap) ∧ ∃ q, w' = putRow encStr (Sort.ahead w q) blk off (compactUpTo d d.size ++ List.replicate (d.size - (compactUpTo d d.size).length) []).toArray := Any.slices_Compact_string_arr Try.lays194 blk off cap d w hH hsz hcap
open Go.RowKit Go.Lib Go.Sort in
/-- slices.Compact at []string: "Compact replaces consecutive runs of equal elements with a single copy. This is like the uniq command found on Unix. Compact modifies the contents of the slice s and returns the modified slice, which may have a smaller length. Compact zeroes the elements between the new length and the original length. The result preserves the nilness of s.": IT RETURNS THE SLICE CUT TO 'Lib.compact zs'; ITS CELLS HOLD 'Lib.compact zs', THEN ZERO VALUES up to the old length; all else is as it was, but for the count of draws. IN THE WORDS OF slices.Sort's CONTRACT ('Holds', 'putRow'): so the everyday 'slices.Sort(xs); xs = slices.Compact(xs)' goes from the one contract to the other. It asks 'zs.length ≤ cap' (every slice's: the reslicing 's[:k]' looks at it). Length 0, nil: '.._empty'. (LAID: no walk: one application.) -/
theorem Try.slices_Compact_string (blk off cap : Nat) (zs : List (List UInt8)) (w : World) (hH : Holds encStr w blk off zs.toArray) (hsz : zs.length ≤ 9223372036854775807) (hcap : zs.length ≤ cap) :
    Calls Try.prog 35 #[.slice (some ⟨blk, off, none⟩) zs.length cap] w fun e w' => e = .returned (.slice (some ⟨blk, off, none⟩) (Lib.compact zs).length cap) ∧ ∃ q, w' = putRow encStr (Sort.ahead w q) blk off (Lib.compact zs ++ List.replicate (zs.length - (Lib.compact zs).length) []).toArray := Any.slices_Compact_string Try.lays194 blk off cap zs w hH hsz hcap
open Go.RowKit Go.Lib Go.Sort in
/-- The same at a slice of length 0, a nil one too: it comes back as it is. (LAID: no walk: one application.) -/
theorem Try.slices_Compact_string_empty (a : Option Addr) (cap : Nat) (w : World) :
    Calls Try.prog 35 #[.slice a 0 cap] w fun e w' => e = .returned (.slice a 0 cap) ∧ w' = w := Any.slices_Compact_string_empty Try.lays194 a cap w
def Try.laysNm237_ren : Go.Shelf.Ren := ⟨fun | 37 => 53 | n => n, fun | 3 => 3 | 4 => 4 | n => n, fun | n => n⟩
theorem Try.laysNm237 : Go.Proofs.Lays2.n37 Try.prog Try.laysNm237_ren := {
  mixed := by kernel_rfl
  f37 := Try.func53.trans (congrArg some (by kernel_rfl))
  t3 := Try.underlying3
  a3 := Try.isAgg3
  z3 := Try.sizeOf3
  v3 := Try.zeroValue3
  t4 := Try.underlying4
  a4 := Try.isAgg4
  z4 := Try.sizeOf4
  v4 := Try.zeroValue4 }
open Go.RowKit Go.Lib in
/-- cmp.isNaN[int]: 'x != x': false. (LAID: no walk: one application.) -/
theorem Try.cmp_isNaN_int2 (x : Int) (w : World) :
    Calls Try.prog 53 #[.int .i64 x] w fun e w' => e = .returned (.bool false) ∧ w' = w := Any.cmp_isNaN_int2 Try.laysNm237 x w
open Go.RowKit Go.Lib Go.Sort in
/-- slices.Compact at []string, of an argument. (LAID: no walk: one application.) -/
theorem Try.slices_Compact_string_cells (b off n c : Nat) (Sx : Nat → ByteArray) (w : World) (hbig : n ≤ 9223372036854775807) (hcap : n ≤ c) (hc : ∀ i, i < n → w.cell? ⟨b, off + i, none⟩ = some (.string (Sx i))) (hf : ∀ j, j < n → w.frozen? ⟨b, off + j, none⟩ = false) :
    Calls Try.prog 35 #[.slice (some ⟨b, off, none⟩) n c] w fun e w' => e = .returned (.slice (some ⟨b, off, none⟩) (Lib.compact (Lib.strsOf Sx n)).length c) ∧ ∃ q, w' = (w.drewN q).setCells b off ((Lib.compact (Lib.strsOf Sx n) ++ List.replicate (n - (Lib.compact (Lib.strsOf Sx n)).length) []).map encStr) := Any.slices_Compact_string_cells Try.lays194 b off n c Sx w hbig hcap hc hf
open Go.RowKit Go.Sort in
/-- .. and plain. (LAID: no walk: one application.) -/
theorem Try.slices_Sort_string_none (p : Option Addr) (cap : Nat) (w : World) :
    Calls Try.prog 34 #[.slice p 0 cap] w fun e w' => e = .returned (.tuple #[]) ∧ w' = w := Any.slices_Sort_string_none Try.lays190 p cap w
def Try.laysSlN68_f54_ren : Go.Shelf.Ren := ⟨fun | 68 => 54 | n => n, fun | 23 => 2 | 4 => 4 | n => n, fun | n => n⟩
theorem Try.laysSlN68_f54 : Go.Proofs.SlLaysN.n68 Try.prog Try.laysSlN68_f54_ren := {
  mixed := by kernel_rfl
  f68 := ⟨Try.f54.name, by decide, Try.func54.trans (congrArg some (by kernel_rfl))⟩
  t4 := Try.underlying4
  a4 := Try.isAgg4
  z4 := Try.sizeOf4
  v4 := Try.zeroValue4
  t23 := Try.underlying2
  a23 := Try.isAgg2
  z23 := Try.sizeOf2
  v23 := Try.zeroValue2 }
open Go.RowKit Go.Lib in
/-- cmp.isNaN[int]: 'x != x': false. (LAID AT THE INSTANCE 'cmp.isNaN[int64]': no walk: one application.) -/
theorem Try.cmp_isNaN_int2_f54 (x : Int) (w : World) :
    Calls Try.prog 54 #[.int .i64 x] w fun e w' => e = .returned (.bool false) ∧ w' = w := AnyG.cmp_isNaN_int2 Try.laysSlN68_f54 x w
def Try.laysSlE041_f25_ren : Go.Shelf.Ren := ⟨fun | 41 => 25 | n => n, fun | 22 => 25 | 23 => 9 | 4 => 4 | n => n, fun | n => n⟩
theorem Try.laysSlE041_f25 : Go.Proofs.SlLaysE0.n41 Try.prog Try.laysSlE041_f25_ren := {
  mixed := by kernel_rfl
  f41 := ⟨Try.f25.name, by decide, Try.func25.trans (congrArg some (by kernel_rfl))⟩
  t4 := Try.underlying4
  a4 := Try.isAgg4
  z4 := Try.sizeOf4
  v4 := Try.zeroValue4
  t22 := Try.underlying25
  a22 := Try.isAgg25
  z22 := Try.sizeOf25
  v22 := Try.zeroValue25 }
open Go.RowKit Go.Lib in
/-- slices.Clone: "Clone returns a copy of the slice. The elements are copied using assignment, so this is a shallow clone. The result may have additional unused capacity. The result preserves the nilness of s.": OF A SLICE THAT IS NOT nil IT RETURNS A SLICE THAT IS NOT nil, OF THE SAME CELLS, IN MEMORY OF THE CALL's OWN ('ownsRow': the how-to's 6f); below the heap's size at the call all is as it was. (LAID AT THE INSTANCE 'slices.Clone[[]string,string]': no walk: one application.) -/
theorem Try.slices_Clone (i0 : TypeInfo) (z : Value) (size bytes : Nat) (hi : Try.prog.info? 9 = some i0) (hz0 : i0.zero = some z) (hz1 : i0.size = size) (hz2 : i0.bytes = bytes) (hzs : z.cells.size = size) (hsz : 0 < size) (z23 : ∀ w, (Go.sizeOf 9).run Try.prog w = .ok size w) (b off n c : Nat) (news : List Value) (w : World) (hl : news.length = n * size) (hn : n ≤ maxLen) (hbig : n * bytes ≤ 140737488355328) (hc : ∀ j u, news[j]? = some u → w.cell? ⟨b, off + j, none⟩ = some u) (h1 : ∀ u ∈ news, u.oneCell' = true) :
    Calls Try.prog 25 #[.slice (some ⟨b, off, none⟩) n c] w fun e w' => ∃ v', e = .returned v' ∧ w'.ownsRow w.heap.size 9 size v' n news ∧ v' ≠ .slice none 0 0 ∧ Below w.heap.size w w' := AnyE.slices_Clone Try.laysSlE041_f25 i0 z size bytes hi hz0 hz1 hz2 hzs hsz z23 b off n c news w hl hn hbig hc h1
open Go.RowKit Go.Lib in
/-- The same at nil: nil comes back; the world is as it was; nothing is asked of the element's type. (LAID AT THE INSTANCE 'slices.Clone[[]string,string]': no walk: one application.) -/
theorem Try.slices_Clone_nil (n c : Nat) (w : World) :
    Calls Try.prog 25 #[.slice none n c] w fun e w' => e = .returned (.slice none 0 0) ∧ w' = w := AnyE.slices_Clone_nil Try.laysSlE041_f25 n c w
end Go.Proofs
end
/- FxL -/
section
set_option linter.unusedVariables false
set_option linter.unusedSimpArgs false
namespace Go.Px
/-- a contract out of a quiet call -/
theorem KOk.quiet {c : Ctx} (k : CtxOk c) {f : FuncId} {fn : Func} (hf : c.P.funcs[f]? = some fn) (hb : fn.body.isSome = true) {args : List AV} {v : AV}
    (H : ∀ (F : Nat → List Value) (w : World) (A : List Value), FzW F w → VRs (fzm F) args A → ∃ z, Calls c.P f A.toArray w (fun e w' => e = .returned z ∧ w' = w) ∧ VR (fzm F) v z) : KOk c f args v := by
  intro F w A hF hA
  obtain ⟨z, hz, hv⟩ := H F w A hF hA
  have hnm : fn.name ≠ "runtime.NumGoroutine" := by simpa using k.names f fn hf
  obtain ⟨body, hbody⟩ := Option.isSome_iff_exists.1 hb
  refine ⟨.enter f A.toArray, w, by simp [callFunc, hf, hnm, hbody, Sem.run], ?_⟩
  refine (callsIn_wide.2 hz).mono fun e w' ⟨he, hw⟩ => ?_
  subst he; subst hw
  exact ⟨ExtW.refl w', F, fun _ _ _ e => e, fun _ _ => rfl, hF, hv⟩
end Go.Px
namespace Go.Px.Fx
open Go.Proofs
theorem sort34 : SortC cF 34 := fun blk cap ss w hH hB hs => Try.slices_Sort_string blk 0 cap ss w hH hB hs
theorem compact35 : CompactC cF 35 := fun blk cap ss w hH h1 h2 => Try.slices_Compact_string blk 0 cap ss w hH h1 h2
theorem empty_at {ρ : Map} {v : Value} (h : VR ρ (.rsl 0 1 []) v) : ∃ a C, v = .slice a 0 C := by
  obtain ⟨a, C, e, _⟩ := rsl_slice h
  exact ⟨a, C, e⟩
theorem k34n : KOk cF 34 [.rsl 0 1 []] (.tup []) := KOk.quiet cF_ok Try.func34 rfl fun F w A hF hA => by
  simp only [VRs] at hA
  obtain ⟨x, _, hx, rfl, rfl⟩ := hA
  obtain ⟨a, C, rfl⟩ := empty_at hx
  exact ⟨.tuple #[], Try.slices_Sort_string_none a C w, by simp only [VR, VRs]; exact ⟨[], rfl, rfl⟩⟩
theorem k35n : KOk cF 35 [.rsl 0 1 []] (.rsl 0 1 []) := KOk.quiet cF_ok Try.func35 rfl fun F w A hF hA => by
  simp only [VRs] at hA
  obtain ⟨x, _, hx, rfl, rfl⟩ := hA
  obtain ⟨a, C, rfl⟩ := empty_at hx
  exact ⟨.slice a 0 C, Try.slices_Compact_string_empty a C w, hx⟩
end Go.Px.Fx
end
/- PxVf -/
section
set_option linter.unusedVariables false
set_option linter.unusedSimpArgs false
open Go.Sort Go.Proofs
namespace Go.Px
theorem own0 {X : Cx} {ρ : Map} {h : Heap} {w : World} (p : PI X ρ h w) {id t z n : Nat} {l : List AV} (hg : h.get id = .arr t z n l) (hn : n = 0) {x : Value} (hx : VR ρ (.own id n z) x) (σ : Map) : VR σ (.rsl 0 z []) x ∧ l = [] := by
  subst hn
  have h0 := (p.hr.av id t z 0 l hg).1
  refine ⟨?_, List.length_eq_zero_iff.1 (by omega)⟩
  obtain ⟨a, C, rfl, _⟩ := own_slice hx
  simp only [VR]
  refine ⟨by simp, .inl ⟨trivial, ?_⟩⟩
  cases a with
  | none =>
    simp only [VR] at hx
    obtain ⟨_, ⟨_, a, q⟩ | ⟨B, D, q, _⟩⟩ := hx
    · cases q; exact .inl rfl
    · cases q
  | some a => exact .inr ⟨_, _, rfl⟩
theorem Chg.ownEmp {X : Cx} {sz : Nat} {rd : Option Nat} {L : List (Nat × AV)} {h : Heap} {m : List Nat} (t : Nat) {id ty z n : Nat} {l : List AV} (hl : lkO L t = some (.own id n z)) (hg : h.get id = .arr ty z n l) (hn : n = 0) : Chg X sz rd L h ((t, .rsl 0 z []) :: L) h m := fun ro ρ w e a h1 p h3 he h4 => by
  refine ⟨ρ, e.set und t (.rsl 0 z []), h1, p, ⟨h3.1, fun s => ?_⟩, he.set t _, h4⟩
  rw [get_set]
  by_cases hs : s = t
  · subst hs
    rw [if_pos rfl]
    have := h3.2 s
    rw [he s _ hl] at this
    exact (own0 p hg hn this ρ).1
  · rw [if_neg hs]; exact h3.2 s
end Go.Px
end
/- FxR -/
section
set_option linter.unusedVariables false
set_option linter.unusedSimpArgs false
set_option maxHeartbeats 4000000
namespace Go.Px.Fx
open Go.Proofs
attribute [local irreducible] Go.Px.KOk
noncomputable def ownV (c : Cl) : List Str := argV c.a ++ (bif isV c.o then [c.o] else [])
noncomputable def preV (l : List Cl) (j : Nat) : List Str := ((preL l).take j).flatMap ownV
theorem preV_succ {l : List Cl} {j : Nat} (h : j < (preL l).length) : preV l (j + 1) = preV l j ++ ownV ((preL l).getD j default) := by
  unfold preV
  rw [take_succ' h, List.flatMap_append]; simp
mutual
theorem pre_vars : ∀ c : Cl, c.pre.flatMap ownV = c.vars
  | .mk k n a o kids => by
    have := preL_vars kids
    simp only [Cl.pre, List.flatMap_cons, this, Cl.vars, ownV, Cl.a, Cl.o]
theorem preL_vars : ∀ l : List Cl, (preL l).flatMap ownV = varsL l
  | [] => rfl
  | c :: r => by
    have h1 := pre_vars c
    have h2 := preL_vars r
    simp only [preL, List.flatMap_append, h1, h2, varsL]
end
theorem preV_all (l : List Cl) : preV l (preL l).length = varsL l := by unfold preV; rw [List.take_length, preL_vars]
theorem preV_len (l : List Cl) (j : Nat) : (preV l j).length ≤ (varsL l).length := by
  have e : varsL l = preV l j ++ ((preL l).drop j).flatMap ownV := by
    unfold preV
    rw [← List.flatMap_append, List.take_append_drop, preL_vars]
  rw [e, List.length_append]; omega
mutual
theorem pre_ok : ∀ c : Cl, c.ok → ∀ d ∈ c.pre, d.ok
  | .mk k n a o kids, h, d, hd => by
    simp only [Cl.pre, List.mem_cons] at hd
    rcases hd with rfl | hd
    · exact h
    · exact preL_ok kids h.2.2.2 d hd
theorem preL_ok : ∀ l : List Cl, okL l → ∀ d ∈ preL l, d.ok
  | [], _, d, hd => by cases hd
  | c :: r, h, d, hd => by
    simp only [preL, List.mem_append] at hd
    rcases hd with hd | hd
    · exact pre_ok c h.1 d hd
    · exact preL_ok r h.2 d hd
end
mutual
theorem pre_cnt : ∀ c : Cl, ∀ d ∈ c.pre, d.a.length ≤ c.cnt
  | .mk k n a o kids, d, hd => by
    simp only [Cl.pre, List.mem_cons] at hd
    rcases hd with rfl | hd
    · show a.length ≤ 1 + a.length + cntL kids; omega
    · have := preL_cnt kids d hd
      show d.a.length ≤ 1 + a.length + cntL kids; omega
theorem preL_cnt : ∀ l : List Cl, ∀ d ∈ preL l, d.a.length ≤ cntL l
  | [], d, hd => by cases hd
  | c :: r, d, hd => by
    simp only [preL, List.mem_append] at hd
    simp only [cntL]
    rcases hd with hd | hd
    · have := pre_cnt c d hd; omega
    · have := preL_cnt r d hd; omega
end
theorem getD_mem {α : Type} [Inhabited α] {l : List α} {j : Nat} (h : j < l.length) : l.getD j default ∈ l := by
  rw [List.getD_eq_getElem?_getD, List.getElem?_eq_getElem h]; exact List.getElem_mem h
theorem flat_strC (l : List Str) : l.flatMap encS = strC l := by
  induction l with
  | nil => rfl
  | cons a l ih => rw [List.flatMap_cons, ih]; rfl
def VarsG (l : List Str) : List Str := Lib.compact (l.mergeSort sLe)
theorem k15 (l : List Cl) (hb : cntL l ≤ 10000) (hok : okL l) : KOk cF 15 [clsA l] (strsA (VarsG (varsL l))) := by
  have h1 := varsL_len l
  have h0 := k32 l
  refine KOk.of cF_ok eF.g Try.func15 rfl (Nat.le_of_ble_eq_true rfl) fun w F => ?_
  repeat' first | refine Go.seq ?_ | refine Go.region rfl ?_ | refine Ops.nil ?_ | refine Ops.val eF rfl rfl (by first | exact Want.no rfl | exact Want.tT rfl rfl rfl rfl | exact Want.fF rfl rfl rfl rfl) (by first | exact Hop.move rfl rfl | exact Hop.assign rfl rfl) ?_ | refine Ops.call eF rfl rfl (by first | exact Want.no rfl | exact Want.tT rfl rfl rfl rfl | exact Want.fF rfl rfl rfl rfl) rfl rfl rfl rfl (h0) rfl ?_ | refine Ops.rowAt eF 0 rfl rfl (by first | exact Want.no rfl | exact Want.tT rfl rfl rfl rfl | exact Want.fF rfl rfl rfl rfl) rfl (Hop.alloc eF rfl rfl rfl) ?_ | refine Go.block ?_
  refine Go.change (Chg.tokCell 1 0 9 1 rfl rfl rfl) ?_
  refine Go.to (M := [(3, .ptr 0 0), (8, .fn (.func 48) [] [.rptr [clsA l]])]) ?_ ⟨rfl, rfl, trivial⟩
  refine Go.rangeK eF 2 rfl rfl rfl (it48 (cntL l + 1) l (by omega) (by omega)) rfl (fun j => hq 3 [.row ⟨25, 1, .leaf, [.own 1 (preV l j).length 1], none⟩, .arr 9 1 (preV l j).length ((preV l j).flatMap encS), .dfr true])
    (fun b => ChgE.cut _ rfl eF.g rfl ⟨.inr rfl, .inr rfl, .inr rfl, trivial⟩ ⟨low_row rfl rfl, trivial, trivial, trivial⟩) (fun j v hv => by rw [(item_at hv).2]; rfl) rfl (fun j v hv b2 => ?_) ?_
  · obtain ⟨hj, rfl⟩ := item_at hv
    have hc := preL_ok l hok _ (getD_mem hj)
    have hn := preL_cnt l _ (getD_mem hj)
    have hs := preV_succ hj
    have hp := preV_len l j
    have hp2 := preV_len l (j + 1)
    rw [Cl.ok_eq] at hc
    generalize (preL l).getD j default = c at *
    repeat' first | refine Go.region rfl ?_ | refine Ops.nil ?_ | refine Ops.rowAt eF 3 rfl rfl (by first | exact Want.no rfl | exact Want.tT rfl rfl rfl rfl | exact Want.fF rfl rfl rfl rfl) rfl (Hop.alloc eF rfl rfl rfl) ?_ | refine Ops.unit eF rfl (by first | exact Want.no rfl | exact Want.tT rfl rfl rfl rfl | exact Want.fF rfl rfl rfl rfl) (Hop.store eF rfl rfl rfl rfl rfl rfl) (ArrKeep.put rfl) ?_
    refine Go.bodyK (fun b3 => ?_)
    repeat' first | refine Go.seq ?_ | refine Go.region rfl ?_ | refine Ops.nil ?_ | refine Ops.val eF rfl rfl (by first | exact Want.no rfl | exact Want.tT rfl rfl rfl rfl | exact Want.fF rfl rfl rfl rfl) (by first | exact Hop.move rfl rfl | exact Hop.faP eF rfl rfl rfl rfl rfl rfl rfl | exact Hop.ldP eF rfl rfl rfl rfl rfl rfl rfl | exact Hop.lenD eF rfl rfl rfl rfl rfl rfl rfl) ?_ | refine Go.block ?_
    refine Go.toHQ (N := 4) (bs := [.row ⟨25, 1, .leaf, [.own 1 (preV l j).length 1], none⟩, .arr 9 1 (preV l j).length ((preV l j).flatMap encS), .dfr true, .row ⟨41, 5, .leaf, encF c, none⟩]) (L' := [(3, .ptr 0 0), (4, .ptr 3 0), (11, argsA c.a), (12, .int .i64 c.a.length), (13, .int .i64 0)]) ?_ rfl eF.g ⟨rfl, rfl, rfl, rfl, rfl, trivial⟩ rfl rfl ⟨.inr rfl, .inr rfl, .inr rfl, .inr rfl, trivial⟩ ⟨low_row rfl rfl, trivial, trivial, low_row rfl rfl, trivial⟩ rfl rfl
    refine Go.loop (fun i : Nat => [(3, .ptr 0 0), (4, .ptr 3 0), (11, argsA c.a), (12, .int .i64 c.a.length), (13, .int .i64 i)]) (fun i => hq 4 [.row ⟨25, 1, .leaf, [.own 1 ((preV l j).length + (argV (c.a.take i)).length) 1], none⟩, .arr 9 1 ((preV l j).length + (argV (c.a.take i)).length) ((preV l j).flatMap encS ++ (argV (c.a.take i)).flatMap encS), .dfr true, .row ⟨41, 5, .leaf, encF c, none⟩]) (fun i => i ≤ c.a.length) (fun i => c.a.length - i) 0 (by omega) ⟨rfl, rfl, rfl, rfl, rfl, trivial⟩ (by simp [argV]) (fun i hi ih => ?_)
    have hav : (argV (c.a.take i)).length ≤ i := Nat.le_trans (argV_len _) (by rw [List.length_take]; omega)
    have k1 := k33 (c.a.getD i default).x (hc.2.1 i)
    have k2 := k33 c.o hc.2.2.1
    repeat' first | refine Go.seq ?_ | refine Go.region rfl ?_ | refine Ops.nil ?_ | refine Ops.val eF rfl rfl (by first | exact Want.no rfl | exact Want.tT rfl rfl rfl rfl | exact Want.fF rfl rfl rfl rfl) (by first | exact Hop.move rfl rfl | exact Hop.lss rfl rfl rfl | exact Hop.add rfl rfl rfl (by omega) | exact Hop.faP eF rfl rfl rfl rfl rfl rfl rfl | exact Hop.idx eF rfl rfl rfl rfl rfl rfl rfl (fun _ => rfl) (by omega) | exact Hop.ldRG eF rfl rfl rfl rfl rfl | exact Hop.ldP eF rfl rfl rfl rfl rfl rfl rfl) ?_ | refine Ops.call eF rfl rfl (by first | exact Want.no rfl | exact Want.tT rfl rfl rfl rfl | exact Want.fF rfl rfl rfl rfl) rfl rfl rfl rfl (k1) rfl ?_ | refine Ops.call eF rfl rfl (by first | exact Want.no rfl | exact Want.tT rfl rfl rfl rfl | exact Want.fF rfl rfl rfl rfl) rfl rfl rfl rfl (k2) rfl ?_ | refine Ops.data eF rfl rfl (by first | exact Want.no rfl | exact Want.tT rfl rfl rfl rfl | exact Want.fF rfl rfl rfl rfl) rfl (Hop.bslice eF rfl rfl rfl rfl rfl rfl rfl rfl rfl rfl rfl) rfl rfl ?_ | refine Ops.appendE eF rfl rfl (by first | exact Want.no rfl | exact Want.tT rfl rfl rfl rfl | exact Want.fF rfl rfl rfl rfl) rfl rfl rfl rfl rfl rfl rfl rfl rfl rfl rfl rfl rfl rfl rfl rfl (by repeat' first | exact trivial | refine And.intro ?_ ?_ | exact .inr trivial | exact .inr (ind_row rfl rfl) | exact .inr rfl | exact .inl rfl | exact .inr (hindL _ _)) rfl rfl rfl rfl rfl (by first | rfl | exact ones_flat (fun _ => rfl) _) (by omega) ?_ | refine Ops.rowAt eF 4 rfl rfl (by first | exact Want.no rfl | exact Want.tT rfl rfl rfl rfl | exact Want.fF rfl rfl rfl rfl) rfl (Hop.alloc eF rfl rfl rfl) ?_ | refine Ops.unit eF rfl (by first | exact Want.no rfl | exact Want.tT rfl rfl rfl rfl | exact Want.fF rfl rfl rfl rfl) (Hop.store eF rfl rfl rfl rfl rfl rfl) (ArrKeep.put rfl) ?_ | refine Go.condPt rfl (fun _ => ?_) (fun _ => ?_) | refine Go.block ?_ | refine Go.unblk ?_ | refine Go.skip ?_ | refine Go.exit rfl ?_
    all_goals try simp only [Int.toNat_natCast] at *
    · rename_i q1 q2
      have g := ih (i + 1) (by omega) (by omega)
      simp only [argV_succ (show i < c.a.length by omega), isV, bd_of q2, cond_true, List.length_append, List.length_cons, List.length_nil, Nat.zero_add, List.flatMap_append, List.flatMap_cons, List.flatMap_nil, List.append_nil, ← Nat.add_assoc, ← List.append_assoc] at g
      exact Go.toQ g rfl eF.g ⟨rfl, rfl, rfl, rfl, rfl, trivial⟩ rfl rfl ⟨.inr rfl, .inr rfl, .inr rfl, .inr rfl, trivial⟩ ⟨low_row rfl rfl, trivial, trivial, low_row rfl rfl, trivial⟩ rfl rfl
    · rename_i q1 q2
      have g := ih (i + 1) (by omega) (by omega)
      simp only [argV_succ (show i < c.a.length by omega), isV, bd_no q2, cond_false, List.append_nil] at g
      exact Go.toQ g rfl eF.g ⟨rfl, rfl, rfl, rfl, rfl, trivial⟩ rfl rfl ⟨.inr rfl, .inr rfl, .inr rfl, .inr rfl, trivial⟩ ⟨low_row rfl rfl, trivial, trivial, low_row rfl rfl, trivial⟩ rfl rfl
    · rename_i q1 q2
      have ei : c.a.take i = c.a := by rw [show i = c.a.length by omega, List.take_length]
      have e1 : (preV l (j + 1)).length = (preV l j).length + (argV (c.a.take i)).length + 1 := by simp [hs, ownV, isV, bd_of q2, ei]; omega
      have e2 : (preV l (j + 1)).flatMap encS = (preV l j).flatMap encS ++ (argV (c.a.take i)).flatMap encS ++ encS c.o := by simp [hs, ownV, isV, bd_of q2, ei]
      refine Go.nextK ?_
      rw [e1, e2]
      exact ChgE.cut _ rfl eF.g rfl ⟨.inr rfl, .inr rfl, .inr rfl, trivial⟩ ⟨low_row rfl rfl, trivial, trivial, trivial⟩
    · rename_i q1 q2
      have ei : c.a.take i = c.a := by rw [show i = c.a.length by omega, List.take_length]
      have e1 : (preV l (j + 1)).length = (preV l j).length + (argV (c.a.take i)).length := by simp [hs, ownV, isV, bd_no q2, ei]
      have e2 : (preV l (j + 1)).flatMap encS = (preV l j).flatMap encS ++ (argV (c.a.take i)).flatMap encS := by simp [hs, ownV, isV, bd_no q2, ei]
      refine Go.nextK ?_
      rw [e1, e2]
      exact ChgE.cut _ rfl eF.g rfl ⟨.inr rfl, .inr rfl, .inr rfl, trivial⟩ ⟨low_row rfl rfl, trivial, trivial, trivial⟩
  · rw [List.length_map, preV_all]
    by_cases hz : (varsL l).length = 0
    · have hz2 : varsL l = [] := List.length_eq_zero_iff.1 hz
      rw [hz2]
      have kn1 := k34n
      have kn2 := k35n
      repeat' first | refine Go.seq ?_ | refine Go.region rfl ?_ | refine Ops.nil ?_ | refine Ops.change (Chg.ownEmp 34 (id := 1) rfl rfl rfl) ?_ | refine Ops.change (Chg.ownEmp 36 (id := 1) rfl rfl rfl) ?_ | refine Ops.val eF rfl rfl (by first | exact Want.no rfl | exact Want.tT rfl rfl rfl rfl | exact Want.fF rfl rfl rfl rfl) (by first | exact Hop.assign rfl rfl | exact Hop.ldP eF rfl rfl rfl rfl rfl rfl rfl) ?_ | refine Ops.call eF rfl rfl (by first | exact Want.no rfl | exact Want.tT rfl rfl rfl rfl | exact Want.fF rfl rfl rfl rfl) rfl rfl rfl rfl (kn1) rfl ?_ | refine Ops.call eF rfl rfl (by first | exact Want.no rfl | exact Want.tT rfl rfl rfl rfl | exact Want.fF rfl rfl rfl rfl) rfl rfl rfl rfl (kn2) rfl ?_ | refine Go.unblk ?_ | refine Go.retFm rfl rfl ?_ rfl
      have e : VarsG [] = [] := by simp [VarsG, Lib.compact, Lib.compactUpTo]
      rw [e]; rfl
    · rw [flat_strC]
      repeat' first | refine Go.seq ?_ | refine Go.region rfl ?_ | refine Ops.nil ?_ | refine Ops.sortS (ss := varsL l) eF rfl rfl (by first | exact Want.no rfl | exact Want.tT rfl rfl rfl rfl | exact Want.fF rfl rfl rfl rfl) rfl rfl rfl rfl Try.func34 rfl rfl hz (by omega) sort34 ?_ | refine Ops.compactS (ss := (varsL l).mergeSort sLe) eF rfl rfl (by first | exact Want.no rfl | exact Want.tT rfl rfl rfl rfl | exact Want.fF rfl rfl rfl rfl) rfl rfl rfl rfl rfl Try.func35 rfl rfl hz (by omega) compact35 (fun _ => (by repeat' first | exact trivial | refine And.intro ?_ ?_ | exact .inr trivial | exact .inr (ind_row rfl rfl) | exact .inr rfl | exact .inl rfl)) rfl rfl (by simp) rfl (fun h' hh => ?_) | refine Ops.val eF rfl rfl (by first | exact Want.no rfl | exact Want.tT rfl rfl rfl rfl | exact Want.fF rfl rfl rfl rfl) (by first | exact Hop.assign rfl rfl | exact Hop.ldP eF rfl rfl rfl rfl rfl rfl rfl) ?_ | refine Go.unblk ?_
      subst hh
      repeat' first | refine Go.retFm rfl rfl ?_ rfl
      simp only [strsA, VarsG, dsl, flat_strC]; rfl
end Go.Px.Fx
end
/- PxVg -/
section
set_option linter.unusedVariables false
set_option linter.unusedSimpArgs false
namespace Go.Px
section
variable {X : Cx} {tb : List (Nat × TE)} (E : Env X.c tb) {sz : Nat} {rd : Option Nat} {all : Array Oper} {o : Oper} {rest : List Oper} {k : List It} {L : List (Nat × AV)} {h : Heap} {m : List Nat} {Q : Post}
include E
omit E in
theorem flat_set {α : Type} {z : Nat} {enc : α → List AV} (henc : ∀ a, (enc a).length = z) : ∀ {l : List α} {i : Nat} {b : α}, i < l.length → (l.set i b).flatMap enc = (l.flatMap enc).take (i * z) ++ enc b ++ (l.flatMap enc).drop (i * z + z)
  | [], i, b, hi => by simp at hi
  | a :: l, 0, b, hi => by
    have : List.drop z (enc a ++ l.flatMap enc) = l.flatMap enc := by rw [List.drop_append_of_le_length (by rw [henc]; exact Nat.le_refl _), List.drop_of_length_le (by rw [henc]; exact Nat.le_refl _), List.nil_append]
    simp [this]
  | a :: l, i + 1, b, hi => by
    have ih := flat_set henc (l := l) (i := i) (b := b) (by simpa using hi)
    rw [List.set_cons_succ, List.flatMap_cons, ih, List.flatMap_cons]
    have e1 : (i + 1) * z = (enc a).length + i * z := by rw [henc, Nat.succ_mul, Nat.add_comm]
    rw [e1, Nat.add_assoc, List.take_append, List.drop_append]
    rw [List.take_of_length_le (l := enc a) (by omega), List.drop_of_length_le (l := enc a) (by omega)]
    simp
theorem Hop.stFG {α : Type} {t : Nat} {x y : Operand} {id n i off ty z : Nat} {enc : α → List AV} {l : List α} {v : AV} {e : TE} (b : α) (ho : o.op = .store t x y) (hx : evL L x = some (.optr id n off)) (hy : evL L y = some v) (hv : v.cells = enc b) (hoff : off = i * z) (ht : lkT tb t = some e) (hes : Nat.beq e.s z = true) (hg : h.get id = .arr ty z n (l.flatMap enc)) (henc : ∀ a, (enc a).length = z)
    (h1 : ones (enc b) = true) (h2 : datsB (enc b) = true) (hi : i < l.length) (hz1 : Nat.ble 1 e.s = true := by rfl) : Hop X L h o und (h.put id (.arr ty z n ((l.set i b).flatMap enc))) := by
  subst hoff
  have hes' := beqT hes
  have h3 : (i + 1) * z ≤ l.length * z := Nat.mul_le_mul_right z hi
  rw [Nat.succ_mul] at h3
  have := Hop.storeO E (off := i * z) ho hx hy ht (by rw [hv, henc]; exact hes) hg (by rw [hv]; exact h1) (by rw [hv]; exact h2) (by rw [hv, henc, flat_len henc]; exact h3) hz1
  rw [hv, henc] at this
  rw [flat_set henc hi]
  exact this
theorem Hop.ldF1 {α : Type} [Inhabited α] {t : Nat} {x : Operand} {id n i off ty z : Nat} {enc : α → List AV} {l : List α} {v : AV} {e : TE} (ho : o.op = .load t x) (hx : evL L x = some (.optr id n off)) (hoff : off = i * z) (ht : lkT tb t = some e) (ha : e.k.isAgg = false) (hg : h.get id = .arr ty z n (l.flatMap enc)) (henc : ∀ a, (enc a).length = z) (hz : Nat.ble 1 z = true) (hv : nth1 (enc (l.getD i default)) 0 = some v) (hi : i < l.length) : Hop X L h o v h :=
  Hop.ldF E ho hx (by rw [hoff]; rfl) ht ha hg henc hz hv hi
end
end Go.Px
end
/- PxVh -/
section
set_option linter.unusedVariables false
set_option linter.unusedSimpArgs false
namespace Go.Px
/-- slots that name this number say nothing any more -/
def dropI (id : Nat) : List (Nat × AV) → List (Nat × AV)
  | [] => []
  | (t, v) :: r => (match indB id v with | true => (t, v) | false => (t, .bad)) :: dropI id r
theorem dropI_lk {id : Nat} : ∀ {L : List (Nat × AV)} {t : Nat} {v : AV}, lkO (dropI id L) t = some v → v = .bad ∨ (lkO L t = some v ∧ indB id v = true)
  | [], t, v, h => by cases h
  | (s, u) :: r, t, v, h => by
    unfold dropI at h
    cases hu : indB id u with
    | true =>
      rw [hu] at h
      simp only [] at h
      unfold lkO at h ⊢
      split at h
      · rename_i q
        cases h
        exact .inr ⟨rfl, hu⟩
      · exact dropI_lk h
    | false =>
      rw [hu] at h
      simp only [] at h
      unfold lkO at h
      split at h
      · cases h; exact .inl rfl
      · rename_i q
        rcases dropI_lk h with x | ⟨x, y⟩
        · exact .inl x
        · refine .inr ⟨?_, y⟩
          unfold lkO
          rw [q]; exact x
/-- ITS FIRST ELEMENTS, under a number of their own; the old number says nothing any more -/
theorem PI.reid {X : Cx} {ρ : Map} {h : Heap} {w : World} (p : PI X ρ h w) {id ty z n q : Nat} {l : List AV} (hg0 : h.get id = .arr ty z n l) (hi : HInd id h) (hq : q ≤ n) (hG : indsB id X.gv = true) (hz : X.g = none ∨ Nat.ble 1 h.nxt = true) {a0 : Option Addr} {C0 : Nat} (hv : ρ.V id n = some (.slice a0 n C0)) :
    ∃ ρ', PI X ρ' ((h.put id .none).new (.arr ty z q (l.take (q * z)))) w ∧ SubX id ρ ρ' ∧ ρ'.V h.nxt q = some (.slice a0 q C0) ∧ (∀ i, i ≠ id → i ≠ h.nxt → ρ' i = ρ i) := by
  obtain ⟨hlen, hcase⟩ := p.hr.av id ty z n l hg0
  have hlt : id < h.nxt := by
    rcases Nat.lt_or_ge id h.nxt with x | x
    · exact x
    · rw [p.wf.fresh id x] at hg0; cases hg0
  have hok0 : h.ok id := by unfold Heap.ok; rw [hg0]; trivial
  let ρ' : Map := ⟨fun i => if i = h.nxt then ρ id else if i = id then none else ρ i, ρ.F, fun j r => if j = h.nxt ∧ r = q then some (.slice a0 q C0) else ρ.V j r⟩
  have mN : ρ' h.nxt = ρ id := if_pos rfl
  have mI : ρ' id = none := by show (if id = h.nxt then _ else if id = id then _ else _) = _; rw [if_neg (by omega), if_pos rfl]
  have mO : ∀ i, i ≠ id → i ≠ h.nxt → ρ' i = ρ i := fun i a b => by show (if i = h.nxt then _ else if i = id then _ else _) = _; rw [if_neg b, if_neg a]
  have v1 : ρ'.V h.nxt q = some (.slice a0 q C0) := if_pos ⟨rfl, rfl⟩
  have v2 : ∀ j r, ¬ (j = h.nxt ∧ r = q) → ρ'.V j r = ρ.V j r := fun j r a => if_neg a
  have vm : ∀ j r v, ρ.V j r = some v → ρ'.V j r = some v := fun j r v e => by
    by_cases hh : j = h.nxt ∧ r = q
    · rw [hh.1, p.vf h.nxt (Nat.le_refl _)] at e; cases e
    · rw [v2 j r hh]; exact e
  have hne : ∀ i B N, ρ i = some (B, N) → i ≠ h.nxt := fun i B N e x => by rw [x, p.fr.1 h.nxt (Nat.le_refl _)] at e; cases e
  have sx : SubX id ρ ρ' := ⟨fun i p' x e => by obtain ⟨B, N⟩ := p'; rw [mO i x (hne i B N e)]; exact e, fun _ _ _ e => e, vm⟩
  let h' := (h.put id .none).new (.arr ty z q (l.take (q * z)))
  have hnx : h'.nxt = h.nxt + 1 := rfl
  have gN : h'.get h.nxt = .arr ty z q (l.take (q * z)) := by show ((h.put id .none).new _).get _ = _; rw [Heap.get_new]; exact if_pos rfl
  have gI : h'.get id = .none := by show ((h.put id .none).new _).get _ = _; rw [Heap.get_new, if_neg (show ¬ id = (h.put id .none).nxt from Nat.ne_of_lt hlt), Heap.get_put, if_pos rfl]
  have gO : ∀ j, j ≠ id → j ≠ h.nxt → h'.get j = h.get j := fun j a b => by show ((h.put id .none).new _).get _ = _; rw [Heap.get_new, if_neg (show ¬ j = (h.put id .none).nxt from b), Heap.get_put, if_neg a]
  have ho : ∀ j, j ≠ id → j ≠ h.nxt → (h'.ok j ↔ h.ok j) := fun j a b => Heap.ok_same (gO j a b) (fun _ _ _ _ => rfl)
  -- where a number comes from
  have src : ∀ i B N, ρ' i = some (B, N) → h'.ok i → ∃ j, ρ j = some (B, N) ∧ h.ok j ∧ ((i = h.nxt ∧ j = id) ∨ (i ≠ id ∧ i ≠ h.nxt ∧ j = i)) := fun i B N e o => by
    by_cases x : i = h.nxt
    · subst x; rw [mN] at e; exact ⟨id, e, hok0, .inl ⟨rfl, rfl⟩⟩
    · by_cases y : i = id
      · subst y; rw [mI] at e; cases e
      · rw [mO i y x] at e; exact ⟨i, e, (ho i y x).1 o, .inr ⟨y, x, rfl⟩⟩
  have any : ∀ i B N, ρ' i = some (B, N) → ∃ j, ρ j = some (B, N) := fun i B N e => by
    by_cases x : i = h.nxt
    · subst x; rw [mN] at e; exact ⟨id, e⟩
    · by_cases y : i = id
      · subst y; rw [mI] at e; cases e
      · rw [mO i y x] at e; exact ⟨i, e⟩
  have hmul : q * z ≤ n * z := Nat.mul_le_mul_right z hq
  have hlen2 : (l.take (q * z)).length = q * z := by rw [List.length_take]; omega
  refine ⟨ρ', ⟨⟨fun i B N e => ?_, fun i B N e o => ?_, fun i j B N M hij e1 e2 k1 k2 => ?_, fun i r x => ?_, p.hr.fz, fun i B N e o => ?_, fun i t' z' n' l' x => ?_⟩, ⟨fun i hi' => ?_, fun i r s a b => ?_, fun i r s t a b c => ?_, fun s hs => ?_⟩, ⟨fun i hi' => ?_, fun i r x => ?_⟩, fun i hi' r => ?_, fun i t' z' n' l' x m' hm' => ?_, p.ext, fun i B N e => ?_, p.sub, p.old, inds_ok sx _ hG p.keep, hz.elim (fun x G e => by rw [x] at e; cases e) fun x => p.gh.go (fun t' z' n' l' y => ?_) (Same.refl w) (fun _ _ _ => rfl) (fun i B N e o => ?_) (fun _ _ _ => rfl) (fun B N e => ?_) (fun _ _ => rfl) (fun _ _ _ e => e) (fun v e => vm _ _ _ e)⟩, sx, v1, mO⟩
  · obtain ⟨j, e'⟩ := any i B N e; exact p.hr.lt j B N e'
  · obtain ⟨j, e', o', ⟨rfl, rfl⟩ | ⟨y, x, rfl⟩⟩ := src i B N e o
    · have hb := p.hr.ok _ B N e' hok0
      rw [hg0] at hb
      have ro : RowOk ρ.d ⟨ty, n * z, .leaf, l, none⟩ B N w := hb
      rw [gN]
      show RowOk ρ.d ⟨ty, q * z, .leaf, l.take (q * z), none⟩ B N w
      refine ⟨ro.1, Nat.le_trans hmul ro.2.1, ro.2.2.1, fun j hj => ?_⟩
      have hj : j < q * z := hj
      obtain ⟨v, a, b⟩ := ro.2.2.2 j (by show j < n * z; omega)
      refine ⟨v, a, ?_⟩
      rw [Row.get_new, Nat.mod_eq_of_lt (by omega)] at b
      rw [Row.get_new, Nat.mod_eq_of_lt (by omega), List.getElem?_take, if_pos hj]
      exact b
    · rw [gO j y x]; exact (p.hr.ok j B N e' o').ind sx (hi.at_ p.wf y)
  · obtain ⟨i', e1', o1, d1⟩ := src i B N e1 k1
    obtain ⟨j', e2', o2, d2⟩ := src j B M e2 k2
    rcases d1 with ⟨rfl, rfl⟩ | ⟨y1, x1, rfl⟩
    · rcases d2 with ⟨rfl, rfl⟩ | ⟨y2, x2, rfl⟩
      · exact absurd rfl hij
      · obtain ⟨r, s, x, a, _⟩ := p.hr.inj i' j' B N M (Ne.symm y2) e1' e2' o1 o2
        rw [hg0] at a; cases a
    · rcases d2 with ⟨rfl, rfl⟩ | ⟨y2, x2, rfl⟩
      · obtain ⟨r, s, x, _, a, _⟩ := p.hr.inj i' j' B N M y1 e1' e2' o1 o2
        rw [hg0] at a; cases a
      · obtain ⟨r, s, x, a, b, c⟩ := p.hr.inj i' j' B N M hij e1' e2' o1 o2
        exact ⟨r, s, x, by rw [gO i' y1 x1]; exact a, by rw [gO j' y2 x2]; exact b, c⟩
  · by_cases y : i = id
    · subst y; rw [gI] at x; cases x
    · by_cases y2 : i = h.nxt
      · subst y2; rw [gN] at x; cases x
      · rw [gO i y y2] at x
        obtain ⟨N, hN⟩ := p.hr.gl i r x
        exact ⟨N, by rw [mO i y y2]; exact hN⟩
  · obtain ⟨j, e', o', d⟩ := src i B N e o
    rcases p.hr.sep j B N e' o' with x | ⟨r, x⟩
    · exact .inl x
    · rcases d with ⟨rfl, rfl⟩ | ⟨y, y2, rfl⟩
      · rw [hg0] at x; cases x
      · exact .inr ⟨r, by rw [gO j y y2]; exact x⟩
  · by_cases y : i = id
    · subst y; rw [gI] at x; cases x
    · by_cases y2 : i = h.nxt
      · subst y2; rw [gN] at x; cases x
        refine ⟨hlen2, ?_⟩
        rcases hcase with ⟨rfl, a, e⟩ | ⟨B, N, C, e1, e2, e3, e4⟩
        · obtain rfl : q = 0 := by omega
          rw [e] at hv; cases hv
          exact .inl ⟨rfl, _, v1⟩
        · rw [e2] at hv; cases hv
          exact .inr ⟨B, N, C0, mN.trans e1, v1, by omega, e4⟩
      · rw [gO i y y2] at x
        obtain ⟨a1, ⟨a, b, c⟩ | ⟨B2, N2, C2, e1, e2, e3⟩⟩ := p.hr.av i t' z' n' l' x
        · exact ⟨a1, .inl ⟨a, b, vm _ _ _ c⟩⟩
        · exact ⟨a1, .inr ⟨B2, N2, C2, by rw [mO i y y2]; exact e1, vm _ _ _ e2, e3⟩⟩
  · have hi' : h.nxt + 1 ≤ i := hi'
    rw [gO i (by omega) (by omega)]; exact p.wf.fresh i (by omega)
  · by_cases y : i = id
    · subst y; rw [gI] at a; cases a
    · by_cases y2 : i = h.nxt
      · subst y2; rw [gN] at a; cases a
      · rw [gO i y y2] at a; exact Nat.lt_succ_of_lt (p.wf.root i r s a b)
  · by_cases y : i = id
    · subst y; rw [gI] at a; cases a
    · by_cases y2 : i = h.nxt
      · subst y2; rw [gN] at a; cases a
      · rw [gO i y y2] at a
        obtain ⟨u, u1, u2⟩ := p.wf.tip i r s t a b c
        exact ⟨u, by rw [gO t (fun e => by subst e; rw [hg0] at u1; cases u1) (fun e => by subst e; rw [p.wf.fresh _ (Nat.le_refl _)] at u1; cases u1)]; exact u1, u2⟩
  · exact p.wf.tipr s (Nat.le_of_succ_le hs)
  · have hi' : h.nxt + 1 ≤ i := hi'
    rw [mO i (by omega) (by omega)]; exact p.fr.1 i (by omega)
  · have := p.fr.2 i r x
    rw [gO i (fun e => by subst e; rw [hg0] at this; cases this) (fun e => by subst e; rw [p.wf.fresh _ (Nat.le_refl _)] at this; cases this)]; exact this
  · have hi' : h.nxt + 1 ≤ i := hi'
    rw [v2 i r (fun a => by omega)]; exact p.vf i (by omega) r
  · by_cases y : i = id
    · subst y; rw [gI] at x; cases x
    · by_cases y2 : i = h.nxt
      · subst y2; rw [gN] at x; cases x
        rw [v2 _ m' (fun a => by omega)]; exact p.vf _ (Nat.le_refl _) m'
      · rw [gO i y y2] at x
        rw [v2 i m' (fun a => y2 a.1)]; exact p.vu i t' z' n' l' x m' hm'
  · obtain ⟨j, e'⟩ := any i B N e; exact p.mine j B N e'
  · have h0 : 0 ≠ h.nxt := by have := bleT x; omega
    by_cases y3 : 0 = id
    · subst y3; rw [gI] at y; cases y
    · rw [gO 0 y3 h0] at y; exact ⟨_, _, _, y⟩
  · obtain ⟨j, e', o', _⟩ := src i B N e o
    exact .inr ⟨j, N, e', o'⟩
  · by_cases y : 1 = id
    · subst y; exact .inr hok0
    · exact .inl ⟨N, by rw [mO 1 y (hne 1 B N e)]; exact e⟩
section
variable {X : Cx} {tb : List (Nat × TE)} (E : Env X.c tb) {sz : Nat} {rd : Option Nat} {all : Array Oper} {o : Oper} {rest : List Oper} {k : List It} {L : List (Nat × AV)} {h : Heap} {m : List Nat} {Q : Post}
include E
/-- 's[:q]' OF AN ARRAY OF ONE's OWN -/
theorem Ops.uptoO (N : Nat) {d t el id n z : Nat} {x y : Operand} {kk : IntKind} {a : Int} {l : List AV} {e s : TE} (hd : o.dst = some d) (hs : Nat.ble (d + 1) sz = true) (hw : Want all L o true) (ho : o.op = .slice t x none (some y) none) (hx : evL L x = some (.own id n z)) (hy : evL L y = some (.int kk a))
    (ht : lkT tb t = some e) (hk : e.k = .slice el) (hel : lkT tb el = some s) (hz : Nat.beq s.s z = true) (hN : h.nxt = N) (hg : h.get id = .arr el z n l) (hi : HInd id h) (hm : (m.all fun i => !Nat.beq i id) = true) (hrd : rdNot id rd = true) (hG : indsB id X.gv = true) (hr : 0 ≤ a ∧ a ≤ n)
    (nx : Ops X sz rd all rest k ((d, .own N a.toNat z) :: dropI id L) (newAt N (h.put id .none) (.arr el z a.toNat (l.take (a.toNat * z)))) m Q) (hgz : X.g = none ∨ Nat.ble 1 N = true := by first | exact .inl rfl | exact .inr rfl) : Ops X sz rd all (o :: rest) k L h m Q := ⟨fun e0 he => by
  refine TriOps.cons (hw e0 he) (K := fun s' => RunK X sz rd k Q .normal s') ?_
  intro ro ρ w b next Q' h1 p h3 h4 h5
  refine ⟨fun _ _ => trivial, ?_⟩
  rw [show (wideR ro).round = ro from rfl, Oper.semAt_eq ro b.eval o (by rw [ho]; intro d q; cases q)]
  obtain ⟨q, rfl⟩ : ∃ q : Nat, a = q := ⟨a.toNat, by omega⟩
  rw [Int.toNat_natCast] at nx
  have hq : q ≤ n := by omega
  have hS : VR ρ (.own id n z) (b.eval x) := by rw [← he.ev hx]; exact ev_ok h3 x
  have hY : b.eval y = .int kk q := by have := ev_ok h3 y; rw [he.ev hy] at this; simpa only [VR] using this
  obtain ⟨a0, C0, hSe, hC⟩ := own_slice hS
  have hV : ρ.V id n = some (.slice a0 n C0) := by simp only [VR] at hS; rw [← hSe]; exact hS.1
  obtain ⟨ρ', r1, r2, r3, r4⟩ := p.reid hg hi hq hG (by rw [hN]; exact hgz) hV
  obtain ⟨ie, i1, i2, i3⟩ := (E.t el s hel).si
  have hsz : ie.size = z := i2.trans (beqT hz)
  have hu := run_under E.k ((E.t t e ht).sl hk) w
  have hrun : (execOp b.eval o).run X.c.P w = .ok (.value (.slice a0 q C0)) w := by
    have hb : ∀ code, (Instr.sliceBound (.int kk (q : Int)) C0 code).run X.c.P w = .ok q w := fun code => bound_ok kk q C0 code (by omega) w
    have hsz2 : (sizeOf el).run X.c.P w = .ok ie.size w := by
      have := run_size (w := w) E.k (show X.c.size el = some ie.size from by rw [i2]; exact (E.t el s hel).size)
      exact this
    simp only [execOp, ho, Option.map_none, Option.map_some, hSe, hY, Instr.sliceAt, Instr.slice, Sem.run_bind, hu, Result.andThen_ok, Instr.sliceBounds, Sem.run_pure, hb, hsz2]
    cases a0 with
    | none => simp
    | some ad => simp [Addr.add]
  rw [hrun]
  have hnew : newAt N (h.put id .none) (.arr el z q (l.take (q * z))) = (h.put id .none).new (.arr el z q (l.take (q * z))) := (new_at (h := h.put id .none) hN _).symm
  rw [hnew] at nx
  have hown : VR ρ' (.own N q z) (.slice a0 q C0) := by
    simp only [VR]
    refine ⟨by rw [← hN]; exact r3, ?_⟩
    simp only [VR] at hS
    rcases hS.2 with ⟨h0, a, e0⟩ | ⟨B, C, e0, e1⟩
    · rw [hSe] at e0; cases e0
      exact .inl ⟨by omega, _, by rw [show q = 0 by omega]⟩
    · rw [hSe] at e0; cases e0
      exact .inr ⟨B, _, rfl, by omega⟩
  obtain ⟨e', he', er'⟩ := known_env (σ := ρ') (L := dropI id L) (tm := b.tmps) (sz := sz) h3.1 (fun s v qq => by
    rcases dropI_lk qq with rfl | ⟨q1, q2⟩
    · simp [VR]
    · have := h3.2 s
      rw [he s v q1] at this
      exact ind_ok r2 v q2 this)
  refine h5 (.own N q z) ⟨e', _, m⟩ _ _ ρ' ⟨e'.set und d (.own N q z), by rw [hd]; exact setD_some hs, nx.run _ (he'.set d _)⟩ ?_ r1 er' ?_ hown
  · cases rd with
    | none => exact h1
    | some r =>
      obtain ⟨B', N', q1, q2⟩ := h1
      exact ⟨B', N', r2.m r _ (nb (show (!Nat.beq r id) = true from hrd)) q1, q2⟩
  · have hmr : ∀ {m : List Nat} {D : List Deferred}, (m.all fun i => !Nat.beq i id) = true → MR ρ m D → MR ρ' m D := by
      intro m
      induction m with
      | nil => intro D _ q; exact q
      | cons d m ih =>
        intro D hh q
        simp only [List.all_cons, Bool.and_eq_true] at hh
        obtain ⟨B, N, r, q1, q2, q3⟩ := q
        exact ⟨B, N, r, r2.m d _ (nb hh.1) q1, ih hh.2 q2, q3⟩
    obtain ⟨D1, h5, h6⟩ := h4
    exact ⟨D1, hmr hm h5, h6⟩⟩
omit E in
theorem reps_eq {α : Type} (enc : α → List AV) (d : α) : ∀ n, reps n (enc d) = (List.replicate n d).flatMap enc
  | 0 => rfl
  | n + 1 => by rw [List.replicate_succ, List.flatMap_cons, ← reps_eq enc d n]; rfl
omit E in
theorem ones_app : ∀ {a b : List AV}, ones a = true → ones b = true → ones (a ++ b) = true
  | [], b, _, h => h
  | x :: a, b, h1, h2 => by
    have h1 : (match x.one with | true => ones a | false => false) = true := h1
    show (match x.one with | true => ones (a ++ b) | false => false) = true
    cases hx : x.one <;> rw [hx] at h1
    · cases h1
    · exact ones_app h1 h2
omit E in
theorem dats_app : ∀ {a b : List AV}, datsB a = true → datsB b = true → datsB (a ++ b) = true
  | [], b, _, h => h
  | x :: a, b, h1, h2 => by
    simp only [datsB] at h1
    simp only [List.cons_append, datsB]
    cases hx : datB x <;> rw [hx] at h1
    · cases h1
    · exact dats_app h1 h2
omit E in
theorem dats_rep {α : Type} {enc : α → List AV} {d : α} (h : datsB (enc d) = true) : ∀ n, datsB ((List.replicate n d).flatMap enc) = true
  | 0 => rfl
  | n + 1 => by rw [List.replicate_succ, List.flatMap_cons]; exact dats_app h (dats_rep h n)
omit E in
theorem ones_rep {α : Type} {enc : α → List AV} {d : α} (h : ones (enc d) = true) : ∀ n, ones ((List.replicate n d).flatMap enc) = true
  | 0 => rfl
  | n + 1 => by rw [List.replicate_succ, List.flatMap_cons]; exact ones_app h (ones_rep h n)
/-- 'append(s, make(..)..)': so many more, of which each is zero -/
theorem Ops.appendZ {α : Type} {d : Nat} {cl : Call} {x y : Operand} {t t1 el id n z q : Nat} {kk : IntKind} {l : List AV} {e e1 ee : TE} {enc : α → List AV} (dz : α) (hd : o.dst = some d) (hs : Nat.ble (d + 1) sz = true) (hw : Want all L o true) (ho : o.op = .call cl) (hc : cl.callee = .builtin .append) (ha : cl.args.toList = [x, y])
    (hts0 : nth1 cl.argTypes.toList 0 = some t) (hts1 : nth1 cl.argTypes.toList 1 = some t1) (hx : evL L x = some (.own id n z)) (hy : evL L y = some (.int kk (q : Int))) (ht : lkT tb t = some e) (hk : e.k = .slice el) (hel : lkT tb el = some ee) (hz : Nat.beq ee.s z = true) (hz0 : Nat.beq z 0 = false) (hb : Nat.ble ee.b 1000 = true)
    (ht1 : lkT tb t1 = some e1) (hk1 : e1.k = .int kk) (hg : h.get id = .arr el z n l) (hi : HInd id h) (hL : indL id L = true) (hm : (m.all fun i => !Nat.beq i id) = true) (hrd : rdNot id rd = true) (hG : indsB id X.gv = true)
    (hzz : (match ee.z with | .bad => none | v => some v.cells) = some (enc dz)) (henc : (enc dz).length = z) (hones : ones (enc dz) = true) (hdt : datsB (enc dz) = true) (hq : q ≠ 0) (hsm : n + q ≤ 1000000) (nx : Ops X sz rd all rest k ((d, .own id (n + q) z) :: L) (h.put id (.arr el z (n + q) (l ++ (List.replicate q dz).flatMap enc))) m Q) : Ops X sz rd all (o :: rest) k L h m Q := ⟨fun e0 he => by
  refine TriOps.cons (hw e0 he) (K := fun s' => RunK X sz rd k Q .normal s') ?_
  intro ro ρ w a next Q' h1 p h3 h4 h5
  refine ⟨fun _ _ => trivial, ?_⟩
  rw [show (wideR ro).round = ro from rfl, Oper.semAt_eq ro a.eval o (by rw [ho]; intro d q; cases q)]
  have hz := beqT hz
  have hS : VR ρ (.own id n z) (a.eval x) := by rw [← he.ev hx]; exact ev_ok h3 x
  have hY : a.eval y = .int kk q := by have := ev_ok h3 y; rw [he.ev hy] at this; simpa only [VR] using this
  obtain ⟨ie, i1, i2, i3⟩ := (E.t el ee hel).si
  have hzc : X.c.zcells el = some (enc dz) := by
    unfold Ctx.zcells
    rw [(E.t el ee hel).z]
    cases hv : ee.z <;> rw [hv] at hzz <;> first | (cases hzz; done) | exact hzz
  have hsz : ie.size = z := i2.trans hz
  obtain ⟨Z, z1, z2, z3⟩ := src_zero E.k i1 hzc (hsz.trans henc.symm) ρ.d
  have hu := under_eq E.k ((E.t t e ht).sl hk)
  obtain ⟨d1, u1, u2⟩ := (E.t t1 e1 ht1).kd
  have hu1 := under_eq E.k u1
  have hd1 : d1 = .int kk := by
    rw [hk1] at u2
    cases d1 <;> simp only [tkOf] at u2 <;> first | (cases u2; done) | (cases u2; rfl)
  rw [nth1_eq] at hts0 hts1
  have hcs : VRs ρ.d ((List.replicate q dz).flatMap enc) (Builtin.zeroCells Z.cells q).toList := by
    rw [← reps_eq]
    have := made_ok z3 q (by rw [henc]; exact beqN hz0)
    have hzc : Builtin.zeroCells Z.cells q = madeCells Z.cells (q * (enc dz).length) := by
      unfold Builtin.zeroCells madeCells
      rw [z2, hsz, henc]
    rw [hzc]; exact this
  have src : Src X.c.P w cl.argTypes ie Z (.int kk q) q (Builtin.zeroCells Z.cells q).toList := ⟨.inr ⟨t1, kk, kk, by simpa using hts1, by rw [hu1, hd1], rfl, by omega, rfl⟩, by simp [zeroCells_size, z2], z1, z2, by rw [hsz]; exact beqN hz0, by rw [i3]; exact bleT hb⟩
  obtain ⟨y', w', ρ', r1, r2, r3, r4⟩ := append_own p hg hi hG hS src hsz (ty := o.type) (by simpa using hts0) hu (E.k.tys _ _ i1) [] hcs (ones_ok (ones_rep hones q) hcs) hq hsm
  have hrun : (execOp a.eval o).run X.c.P w = .ok (.value y') w' := by
    obtain ⟨CS, hCS⟩ : ∃ CS, (execOp a.eval o).run X.c.P w = (builtin .append cl.argTypes o.type CS (cl.args.map a.eval)).run X.c.P w :=
      ⟨_, by simp only [execOp, ho, resolve, hc, Sem.run_bind, Sem.run_pure, Result.andThen_ok, invoke]; rfl⟩
    have hargs : cl.args.map a.eval = #[a.eval x, a.eval y] := by apply Array.ext'; simp [ha]
    rw [hCS, hargs, hY]
    have r1' : (Builtin.append_ cl.argTypes o.type #[a.eval x, .int kk q]).run X.c.P w = .ok y' w' := r1
    simp [builtin, r1']
  rw [hrun]
  have hL2 : indL id ((d, .own id (n + q) z) :: L) = true := by simp only [indL, indB]; exact hL
  obtain ⟨e', he', er'⟩ := known_env (σ := ρ') (L := L) (tm := a.tmps) (sz := sz) h3.1 (fun s v qq => by
    have := h3.2 s
    rw [he s v qq] at this
    exact ind_ok r3 v (indL_at hL s v qq) this)
  refine h5 (.own id (n + q) z) ⟨e', h.put id (.arr el z (n + q) (l ++ (List.replicate q dz).flatMap enc)), m⟩ y' w' ρ' ⟨e'.set und d (.own id (n + q) z), by rw [hd]; exact setD_some hs, nx.run _ (he'.set d _)⟩ ?_ r2 er' ?_ r4
  · cases rd with
    | none => exact h1
    | some r =>
      obtain ⟨B', N', q1, q2⟩ := h1
      exact ⟨B', N', r3.m r _ (nb (show (!Nat.beq r id) = true from hrd)) q1, q2⟩
  · have hmr : ∀ {m : List Nat} {D : List Deferred}, (m.all fun i => !Nat.beq i id) = true → MR ρ m D → MR ρ' m D := by
      intro m
      induction m with
      | nil => intro D _ q; exact q
      | cons d m ih =>
        intro D hh q
        simp only [List.all_cons, Bool.and_eq_true] at hh
        obtain ⟨B, N, r, q1, q2, q3⟩ := q
        exact ⟨B, N, r, r3.m d _ (nb hh.1) q1, ih hh.2 q2, q3⟩
    obtain ⟨D1, h5, h6⟩ := h4
    exact ⟨D1, hmr hm h5, h6⟩⟩

theorem Hop.capN {x : Operand} {t el : Nat} {cl : Call} {e : TE} (ho : o.op = .call cl) (hc : cl.callee = .builtin .cap) (ha : cl.args.toList = [x]) (hts : nth1 cl.argTypes.toList 0 = some t) (hx : evL L x = some .nilsl) (ht : lkT tb t = some e) (hk : e.k = .slice el) :
    Hop X L h o (.int .i64 0) h := fun e' he => by
  rw [ho]; simp only [opA, oCall, hc, ha]
  rw [nth1_eq, ← nth_eq] at hts
  simp only [List.map_cons, List.map_nil, he.ev hx, oBuiltin, hts, oCap, (E.t t e ht).sl hk]
theorem Hop.nilUpto {t el : Nat} {x y : Operand} {kk : IntKind} {e s : TE} (ho : o.op = .slice t x none (some y) none) (hx : evL L x = some .nilsl) (hy : evL L y = some (.int kk 0)) (ht : lkT tb t = some e) (hk : e.k = .slice el) (hs : lkT tb el = some s) : Hop X L h o .nilsl h := fun e' he => by
  have h1 := (E.t t e ht).sl hk
  have h2 := (E.t el s hs).size
  rw [ho]; simp only [opA, evo]; rw [he.ev hx, he.ev hy]
  have : oSlice X.c t .nilsl none (some (.int kk 0)) none = some .nilsl := by
    simp only [oSlice, h1, h2, optInt]
    rfl
  simp only [oSliceH, this, Px.val]
omit E in
/-- a slot's slice without room, as an array of one's own in which nothing stands -/
theorem Chg.tokS (n0 t ty z : Nat) {u : AV} (hn0 : h.nxt = n0) (hu : noRoom u = true) (hl : lkO L t = some u) (hz : X.g = none ∨ Nat.ble 1 n0 = true := by first | exact .inl rfl | exact .inr rfl) : Chg X sz rd L h ((t, .own n0 0 z) :: L) (newAt n0 h (.arr ty z 0 [])) m := by
  subst hn0
  rw [← new_at rfl]
  exact Chg.tokU t ty z hu hl hz
/-- 's[q:]' OF AN ARRAY OF ONE's OWN: where it lies -/
theorem Ops.fromO {d t el id n z : Nat} {x y : Operand} {kk : IntKind} {a : Int} {l : List AV} {e s : TE} (hd : o.dst = some d) (hs : Nat.ble (d + 1) sz = true) (hw : Want all L o true) (ho : o.op = .slice t x (some y) none none) (hx : evL L x = some (.own id n z)) (hy : evL L y = some (.int kk a))
    (ht : lkT tb t = some e) (hk : e.k = .slice el) (hel : lkT tb el = some s) (hz : Nat.beq s.s z = true) (hg : h.get id = .arr el z n l) (hr : 0 ≤ a ∧ a < n)
    (nx : Ops X sz rd all rest k ((d, .sl id (a.toNat * z) (n - a.toNat) none z) :: L) h m Q) : Ops X sz rd all (o :: rest) k L h m Q := ⟨fun e0 he => by
  refine TriOps.cons (hw e0 he) (K := fun s' => RunK X sz rd k Q .normal s') ?_
  intro ro ρ w b next Q' h1 p h3 h4 h5
  refine ⟨fun _ _ => trivial, ?_⟩
  rw [show (wideR ro).round = ro from rfl, Oper.semAt_eq ro b.eval o (by rw [ho]; intro d q; cases q)]
  obtain ⟨q, rfl⟩ : ∃ q : Nat, a = q := ⟨a.toNat, by omega⟩
  rw [Int.toNat_natCast] at nx
  have hq : q < n := by omega
  have hS : VR ρ (.own id n z) (b.eval x) := by rw [← he.ev hx]; exact ev_ok h3 x
  have hY : b.eval y = .int kk q := by have := ev_ok h3 y; rw [he.ev hy] at this; simpa only [VR] using this
  obtain ⟨h0, ⟨c0, _⟩ | ⟨B, N, C, e1, e2, e3, e4⟩⟩ := p.hr.av id el z n l hg
  · omega
  have hSe : b.eval x = .slice (some ⟨B, 0, none⟩) n C := by
    simp only [VR] at hS
    rw [e2] at hS
    exact (Option.some.inj hS.1).symm
  obtain ⟨ie, i1, i2, i3⟩ := (E.t el s hel).si
  have hsz : ie.size = z := i2.trans (beqT hz)
  have hu := run_under E.k ((E.t t e ht).sl hk) w
  have hrun : (execOp b.eval o).run X.c.P w = .ok (.value (.slice (some ⟨B, q * z, none⟩) (n - q) (C - q))) w := by
    have hb : ∀ code, (Instr.sliceBound (.int kk (q : Int)) n code).run X.c.P w = .ok q w := fun code => bound_ok kk q n code (by omega) w
    have hsz2 : (sizeOf el).run X.c.P w = .ok ie.size w := by
      have := run_size (w := w) E.k (show X.c.size el = some ie.size from by rw [i2]; exact (E.t el s hel).size)
      exact this
    simp only [execOp, ho, Option.map_none, Option.map_some, hSe, hY, Instr.sliceAt, Instr.slice, Sem.run_bind, hu, Result.andThen_ok, Instr.sliceBounds, Sem.run_pure, hb, hsz2]
    rw [if_neg (by omega)]
    simp [add_off, hsz]
  rw [hrun]
  refine h5 (.sl id (q * z) (n - q) none z) ⟨e0, _, m⟩ _ _ ρ ⟨e0.set und d _, by rw [hd]; exact setD_some hs, nx.run _ (he.set d _)⟩ h1 p h3 h4 ?_
  simp only [VR]
  refine ⟨B, N, C - q, e1, rfl, by omega, (fun k hk => by cases hk), fun _ => ?_⟩
  rw [← e4, ← Nat.add_mul]; congr 1; omega⟩
/-- 'clear' OF THE LAST ELEMENTS OF AN ARRAY OF ONE's OWN -/
theorem Ops.clearO {α : Type} {t el id n z q len : Nat} {cl : Call} {x : Operand} {l : List α} {e ee : TE} {enc : α → List AV} (dz : α) (hdd : o.dst = none) (hw : Want all L o true) (ho : o.op = .call cl) (hc : cl.callee = .builtin .clear) (ha : cl.args.toList = [x]) (hts : nth1 cl.argTypes.toList 0 = some t) (hx : evL L x = some (.sl id (q * z) len none z))
    (ht : lkT tb t = some e) (hk : e.k = .slice el) (hel : lkT tb el = some ee) (hz : Nat.beq ee.s z = true) (hz0 : Nat.beq z 0 = false) (hzz : (match ee.z with | .bad => none | v => some v.cells) = some (enc dz)) (henc : ∀ a, (enc a).length = z) (hones : ones (enc dz) = true) (hdt : datsB (enc dz) = true)
    (hg : h.get id = .arr el z n (l.flatMap enc)) (hlen : q + len = n) (hpos : len ≠ 0) (nx : Ops X sz rd all rest k L (h.put id (.arr el z n ((l.take q ++ List.replicate len dz).flatMap enc))) m Q) : Ops X sz rd all (o :: rest) k L h m Q := ⟨fun e0 he => by
  refine TriOps.cons (hw e0 he) (K := fun s' => RunK X sz rd k Q .normal s') ?_
  intro ro ρ w b next Q' h1 p h3 h4 h5
  refine ⟨fun _ _ => trivial, ?_⟩
  rw [show (wideR ro).round = ro from rfl, Oper.semAt_eq ro b.eval o (by rw [ho]; intro d q; cases q)]
  have hz := beqT hz
  have hS : VR ρ (.sl id (q * z) len none z) (b.eval x) := by rw [← he.ev hx]; exact ev_ok h3 x
  simp only [VR] at hS
  obtain ⟨B, N, C, e1, hSe, e3, _, e4⟩ := hS
  obtain ⟨h0, ⟨c0, _⟩ | ⟨B', N', C', f1, f2, f3, f4⟩⟩ := p.hr.av id el z n _ hg
  · omega
  rw [e1] at f1; cases f1
  obtain ⟨ie, i1, i2, i3⟩ := (E.t el ee hel).si
  have hzc : X.c.zcells el = some (enc dz) := by
    unfold Ctx.zcells
    rw [(E.t el ee hel).z]
    cases hv : ee.z <;> rw [hv] at hzz <;> first | (cases hzz; done) | exact hzz
  have hsz : ie.size = z := i2.trans hz
  obtain ⟨Z, z1, z2, z3⟩ := src_zero E.k i1 hzc (hsz.trans (henc dz).symm) ρ
  have hu := run_under E.k ((E.t t e ht).sl hk) w
  have hcs : VRs ρ ((List.replicate len dz).flatMap enc) (Builtin.zeroCells Z.cells len).toList := by
    rw [← reps_eq]
    have := made_ok z3 len (by rw [henc]; exact beqN hz0)
    have hzc : Builtin.zeroCells Z.cells len = madeCells Z.cells (len * (enc dz).length) := by
      unfold Builtin.zeroCells madeCells
      rw [z2, hsz, henc]
    rw [hzc]; exact this
  have hl1 : (l.flatMap enc).length = l.length * z := flat_len henc l
  have hl2 : ((List.replicate len dz).flatMap enc).length = len * z := by rw [flat_len henc, List.length_replicate]
  have hmul : q * z + len * z = n * z := by rw [← Nat.add_mul, hlen]
  have hz1 : 1 ≤ len * z := Nat.mul_pos (by omega) (by have := beqN hz0; omega)
  have hdt2 : datsB ((List.replicate len dz).flatMap enc) = true := dats_rep hdt len
  have hw2 : wOwn h id n (q * z) ((List.replicate len dz).flatMap enc) = some (h.put id (.arr el z n ((l.take q ++ List.replicate len dz).flatMap enc))) := by
    unfold wOwn
    rw [hg]
    simp only [Nat.beq_refl, ones_rep hones len, hdt2]
    rw [hl2, Nat.ble_eq_true_of_le hz1, Nat.ble_eq_true_of_le (show q * z + len * z ≤ (l.flatMap enc).length by rw [h0]; omega)]
    simp only []
    rw [List.drop_of_length_le (by rw [h0]; omega), List.append_nil, List.flatMap_append, ← flat_take henc]
  obtain ⟨g, g1, g2, g3⟩ := wOwn_ok p.hr p.wf hw2 f2 hcs
  have hst := run_storeCells_cells (P := X.c.P) B (q * z) (Builtin.zeroCells Z.cells len).toList 0 w (by simpa using g1) (by simpa using g2) g3
  simp only [Nat.add_zero] at hst
  have hzv : (zeroValue el).run X.c.P w = .ok Z w := by simp [zeroValue, run_info E.k i1, z1]
  have hrun : (execOp b.eval o).run X.c.P w = .ok (.value (.tuple #[])) (w.setCells B (q * z) (Builtin.zeroCells Z.cells len).toList) := by
    obtain ⟨CS, hCS⟩ : ∃ CS, (execOp b.eval o).run X.c.P w = (builtin .clear cl.argTypes o.type CS (cl.args.map b.eval)).run X.c.P w :=
      ⟨_, by simp only [execOp, ho, resolve, hc, Sem.run_bind, Sem.run_pure, Result.andThen_ok, invoke]; rfl⟩
    have hargs : cl.args.map b.eval = #[b.eval x] := by apply Array.ext'; simp [ha]
    rw [hCS, hargs, hSe]
    obtain ⟨q', rfl⟩ : ∃ q', len = q' + 1 := ⟨len - 1, by omega⟩
    rw [nth1_eq] at hts
    have hts : cl.argTypes[0]? = some t := by simpa using hts
    simp [builtin, Builtin.clear_, hts, hu, hzv, hst]
  rw [hrun]
  refine h5 .bad ⟨e0, _, m⟩ _ _ ρ ⟨e0, by rw [hdd]; rfl, nx.run _ he⟩ h1 (p.good g (ArrKeep.arr hg)) h3 h4 (by simp [VR])⟩
end
open Go.Sort Go.Proofs in
/-- Compact of texts: what is left stays an array of one's own -/
theorem KM.compactO {c : Ctx} (k : CtxOk c) (hg0 : ∀ i r, c.g0.get i ≠ .gl r) {f : FuncId} {fn : Func} (hfn : c.P.funcs[f]? = some fn) (hb : fn.body.isSome = true) (hk : CompactC c f) (h0 : ∀ (a : Option Addr) (C : Nat) (w : World), Calls c.P f #[.slice a 0 C] w fun e w' => e = .returned (.slice a 0 C) ∧ w' = w) {n t : Nat} {ss : List (List UInt8)} (hsm : n ≤ 1000000) : KM c f [.arr t 1 n (strC ss)] [.own 0 n 1] (.own 1 (Lib.compact ss).length 1) [.no, .arr t 1 (Lib.compact ss).length (strC (Lib.compact ss))] := by
  refine ⟨Nat.le_succ _, rfl, rfl, rfl, rfl, rfl, fun ρ w A gx p hA => ?_⟩
  simp only [VRs] at hA
  obtain ⟨x, r0, hx, rfl, rfl⟩ := hA
  have hg : (hq 1 [AB.arr t 1 n (strC ss)]).get 0 = .arr t 1 n (strC ss) := rfl
  have hnm : fn.name ≠ "runtime.NumGoroutine" := by simpa using k.names f fn hfn
  obtain ⟨body, hbody⟩ := Option.isSome_iff_exists.1 hb
  -- the end, in both cases
  have fin : ∀ (w' : World) (a0 : Option Addr) (C : Nat) (h' : Heap) (l : List AV) (hnx : h'.nxt = 1) (hg' : h'.get 0 = .arr t 1 n l) (hi' : HInd 0 h') (hl : l.take ((Lib.compact ss).length * 1) = strC (Lib.compact ss)) (hle : (Lib.compact ss).length ≤ n) (hV : ρ.V 0 n = some (.slice a0 n C)) (hnC : n ≤ C) (hsh : (n = 0 ∧ ∃ a, Value.slice a0 n C = .slice a 0 0) ∨ ∃ B D, Value.slice a0 n C = .slice (some ⟨B, 0, none⟩) n D ∧ n ≤ D) (p2 : PI ⟨c, w, ρ.F, opnOf ρ, none, none, [], [], gx⟩ ρ h' w'),
      ∃ ρ', PI ⟨c, w, ρ.F, opnOf ρ, none, none, [], [], gx⟩ ρ' (hq 2 [.none, .arr t 1 (Lib.compact ss).length (strC (Lib.compact ss))]) w' ∧ VR ρ' (.own 1 (Lib.compact ss).length 1) (.slice a0 (Lib.compact ss).length C) := fun w' a0 C h' l hnx hg' hi' hl hle hV hnC hsh p2 => by
    obtain ⟨ρ2, r1, r2, r3, r4⟩ := p2.reid hg' hi' hle rfl (.inl rfl) hV
    rw [hl] at r1
    have r5 := r1.canon hg0 (bs := [.no, .arr t 1 (Lib.compact ss).length (strC (Lib.compact ss))]) ⟨trivial, by
      show Heap.get (Heap.new (h'.put 0 .none) _) 1 = _
      rw [Heap.get_new, if_pos (show 1 = (h'.put 0 .none).nxt from hnx.symm)], trivial⟩ rfl rfl rfl
    refine ⟨_, r5, ?_⟩
    simp only [VR]
    refine ⟨(cutN_V (show 1 < 2 by omega) _).trans (by rw [← hnx]; exact r3), ?_⟩
    rcases hsh with ⟨h0, a, e⟩ | ⟨B, D, e, hD⟩
    · cases e; exact .inl ⟨by omega, a0, by rw [show (Lib.compact ss).length = 0 by omega]⟩
    · cases e; exact .inr ⟨B, _, rfl, by omega⟩
  have hxs := hx
  simp only [VR] at hxs
  obtain ⟨hV0, hsh⟩ := hxs
  by_cases hn : n = 0
  · obtain ⟨a, C, rfl, hC⟩ := own_slice hx
    have hl := (own0 p hg hn hx ρ).2
    have hss : ss = [] := by simpa [strC] using hl
    subst hss
    have hcalls := h0 a C w
    have hce : Lib.compact ([] : List (List UInt8)) = [] := by simp [Lib.compact, Lib.compactUpTo]
    refine ⟨.enter f _, w, by simp [callFunc, hfn, hnm, hbody, Sem.run]; rfl, ?_⟩
    subst hn
    refine (callsIn_wide.2 hcalls).mono fun e w' ⟨hz, hw'⟩ => ?_
    subst hz; subst hw'
    have := fin w' a C _ (strC []) rfl hg ⟨.inl rfl, trivial⟩ (by rw [hce]; rfl) (by rw [hce]; exact Nat.le_refl _) hV0 hC hsh p
    rw [hce] at this ⊢
    exact this
  · obtain ⟨B, C, rfl, hV⟩ := own_at p.hr hg hn hx
    obtain ⟨_, hH, hB, hlen, hnC⟩ := Good.texts (ss' := ss) (m := 0) (os := #[]) p.hr p.wf hg hV hn rfl rfl
    have hcalls := hk B C ss w hH (by omega) (by omega)
    rw [hlen] at hcalls
    refine ⟨.enter f _, w, by simp [callFunc, hfn, hnm, hbody, Sem.run]; rfl, ?_⟩
    refine (callsIn_wide.2 hcalls).mono fun e w' ⟨hz, q, hw'⟩ => ?_
    subst hz
    have hcl := compact_le ss
    have gd := (Good.texts (ss' := Lib.compact ss ++ List.replicate (n - (Lib.compact ss).length) []) (w' := w') (m := q) (os := #[]) p.hr p.wf hg hV hn (by rw [hlen] at hcl; simp; omega) (by rw [hw', grow_empty])).1
    have p2 := p.good gd (ArrKeep.arr hg)
    have := fin w' (some ⟨B, 0, none⟩) C _ (strC (Lib.compact ss ++ List.replicate (n - (Lib.compact ss).length) [])) rfl (by rw [Heap.get_put, if_pos rfl]) (by exact ⟨.inl rfl, trivial⟩) (by
      unfold strC
      rw [Nat.mul_one, List.map_append, List.take_append_of_le_length (by simp), List.take_of_length_le (by simp)]) (by omega) hV hnC (.inr ⟨B, C, rfl, hnC⟩) p2
    exact this
end Go.Px
end
/- PxVi -/
section
set_option linter.unusedVariables false
set_option linter.unusedSimpArgs false
namespace Go.Px
theorem mrx_out {X : Cx} {ρ ρ' : Map} {id : Nat} (m2 : ∀ i, i ≠ id → ρ' i = ρ i) : ∀ {m : List Nat} {D : List Deferred}, (m.all fun i => !Nat.beq i id) = true → MR ρ m D → MR ρ' m D
  | [], D, _, q => q
  | d :: m, D, hh, q => by
    simp only [List.all_cons, Bool.and_eq_true] at hh
    obtain ⟨B, N, r, q1, q2, q3⟩ := q
    exact ⟨B, N, r, by rw [m2 d (nb hh.1)]; exact q1, mrx_out (X := X) m2 hh.2 q2, q3⟩
theorem rox_out {X : Cx} {ρ ρ' : Map} {id : Nat} {rd ro : Option Nat} (m2 : ∀ i, i ≠ id → ρ' i = ρ i) (hrd : rdNot id rd = true) (h1 : RoX X ρ rd ro) : RoX X ρ' rd ro := by
  cases rd with
  | none => exact h1
  | some r =>
    obtain ⟨B, N, q1, q2⟩ := h1
    exact ⟨B, N, by rw [m2 r (nb (show (!Nat.beq r id) = true from hrd))]; exact q1, q2⟩
section
variable {X : Cx} {sz : Nat} {rd : Option Nat} {L : List (Nat × AV)} {h : Heap} {m : List Nat}
/-- an array of one's own that stands in a box: data -/
theorem Chg.cellFrz (id k : Nat) {t ty : TypeId} {z n : Nat} {l : List AV} (hg : h.get id = .row ⟨t, 1, .leaf, [.own k n z], none⟩) (hk : h.get k = .arr ty z n l) (hi : HInd k h) (hL : indL k L = true) (hm : (m.all fun i => !Nat.beq i k) = true) (hrd : rdNot k rd = true) (hG : indsB k X.gv = true := by rfl) :
    Chg X sz rd L h L ((h.put k .none).put id (.row ⟨t, 1, .leaf, [.rsl n z l], none⟩)) m := fun ro ρ w e a h1 p h3 he h4 => by
  obtain ⟨ρ', p', sx, m2, f4, fV⟩ := p.frzArr hk hi hG
  have hne : id ≠ k := fun q => by subst q; rw [hg] at hk; cases hk
  have hg' : (h.put k .none).get id = .row ⟨t, 1, .leaf, [.own k n z], none⟩ := by rw [Heap.get_put, if_neg hne]; exact hg
  have p2 := p'.cell (r' := ⟨t, 1, .leaf, [.rsl n z l], none⟩) hg' rfl rfl rfl rfl (fun j v hj q => by
    have hj : j = 0 := by have hj : j < 1 := hj; omega
    subst hj
    rw [row1] at q ⊢
    refine f4 v ?_
    simp only [VR] at q ⊢
    rw [fV] at q; exact q)
  obtain ⟨e', he', er'⟩ := known_env (σ := ρ') (L := L) (tm := a.tmps) (sz := sz) h3.1 (fun s v q => by
    have := h3.2 s
    rw [he s v q] at this
    exact ind_ok sx v (indL_at hL s v q) this)
  obtain ⟨D1, h5, h6⟩ := h4
  exact ⟨ρ', e', rox_out m2 hrd h1, p2, er', he', ⟨D1, mrx_out (X := X) m2 hm h5, h6⟩⟩
/-- what stands in a box, forgotten -/
theorem Chg.cellBad (id : Nat) {t : TypeId} {u : AV} (hg : h.get id = .row ⟨t, 1, .leaf, [u], none⟩) : Chg X sz rd L h L (h.put id (.row ⟨t, 1, .leaf, [.bad], none⟩)) m :=
  Chg.cell id hg rfl rfl rfl rfl fun ρ w p j v hj q => by
    have hj : j = 0 := by have hj : j < 1 := hj; omega
    subst hj
    rw [row1]; simp [VR]
/-- a box that nobody writes any more: data, wherever it is named (a function's own data, here) -/
theorem Chg.rowFrz (id t : Nat) {ty : TypeId} {cs : List AV} {f : FuncId} (hl : lkO L t = some (.fn (.func f) [] [.ptr id 0])) (hg : h.get id = .row ⟨ty, cs.length, .leaf, cs, none⟩) (hdt : datsB cs = true) (hi : HInd id h) (hm : (m.all fun i => !Nat.beq i id) = true) (hrd : rdNot id rd = true) (hG : indsB id X.gv = true := by rfl) :
    Chg X sz rd L h ((t, .fn (.func f) [] [.rptr cs]) :: dropI id L) (h.put id .none) m := fun ro ρ w e a h1 p h3 he h4 => by
  obtain ⟨ρ', p', sx, m2, f4⟩ := p.frzRow hg hdt hi hG
  obtain ⟨e', he', er'⟩ := known_env (σ := ρ') (L := (t, .fn (.func f) [] [.rptr cs]) :: dropI id L) (tm := a.tmps) (sz := sz) h3.1 (fun s v q => by
    unfold lkO at q
    split at q
    · rename_i hs
      have hs := beqT hs
      cases q
      subst hs
      have := h3.2 s
      rw [he s _ hl] at this
      simp only [VR, VRs, FR] at this ⊢
      obtain ⟨f', F, C, rfl, rfl, ⟨x, r, ⟨B, N, e1, rfl⟩, rfl, rfl⟩, hv⟩ := this
      obtain ⟨L0, a1, a2, a3⟩ := f4 B N e1
      exact ⟨_, _, _, rfl, rfl, ⟨_, _, ⟨B, 0, L0, rfl, a1, a2⟩, rfl, rfl⟩, hv⟩
    · rcases dropI_lk q with rfl | ⟨q1, q2⟩
      · simp [VR]
      · have := h3.2 s
        rw [he s _ q1] at this
        exact ind_ok sx v q2 this)
  obtain ⟨D1, h5, h6⟩ := h4
  exact ⟨ρ', e', rox_out m2 hrd h1, p', er', he', ⟨D1, mrx_out (X := X) m2 hm h5, h6⟩⟩
end
section
variable {X : Cx} {tb : List (Nat × TE)} (E : Env X.c tb) {sz : Nat} {rd : Option Nat} {all : Array Oper} {o : Oper} {rest : List Oper} {k : List It} {L : List (Nat × AV)} {h : Heap} {m : List Nat} {Q : Post}
include E
/-- 's == nil' OF AN EMPTY SLICE: nobody knows -/
theorem Ops.nilEmp {d t u z el : Nat} {x y : Operand} {e : TE} (hd : o.dst = some d) (hs : Nat.ble (d + 1) sz = true) (hw : Want all L o true) (ho : o.op = .binOp .eql t x y u) (hx : evL L x = some (.rsl 0 z [])) (hy : evL L y = some .nilsl) (ht : lkT tb t = some e) (hk : e.k = .slice el)
    (n1 : Ops X sz rd all rest k ((d, .bool true) :: L) h m Q) (n2 : Ops X sz rd all rest k ((d, .bool false) :: L) h m Q) : Ops X sz rd all (o :: rest) k L h m Q := ⟨fun e0 he => by
  refine TriOps.cons (hw e0 he) (K := fun s' => RunK X sz rd k Q .normal s') ?_
  intro ro ρ w a next Q' h1 p h3 h4 h5
  refine ⟨fun _ _ => trivial, ?_⟩
  rw [show (wideR ro).round = ro from rfl, Oper.semAt_eq ro a.eval o (by rw [ho]; intro d q; cases q)]
  have hX : VR ρ (.rsl 0 z []) (a.eval x) := by rw [← he.ev hx]; exact ev_ok h3 x
  have hY : a.eval y = .slice none 0 0 := by have := ev_ok h3 y; rw [he.ev hy] at this; simpa only [VR] using this
  obtain ⟨a0, C, hXe, _⟩ := rsl_slice hX
  have hu := under_eq E.k ((E.t t e ht).sl hk)
  have hrun : (execOp a.eval o).run X.c.P w = .ok (.value (.bool a0.isNone)) w := by
    simp only [execOp, ho, hXe, hY, eqGuard]
    obtain ⟨D, hD⟩ : ∃ D, Op.maxDepth = D + 1 := ⟨_, rfl⟩
    cases a0 <;> simp [Go.binOp, Op.equal, hD, Op.equalIn, run_underlying hu]
  rw [hrun]
  cases a0 with
  | none => exact h5 (.bool true) ⟨e0, _, m⟩ _ _ ρ ⟨e0.set und d (.bool true), by rw [hd]; exact setD_some hs, n1.run _ (he.set d _)⟩ h1 p h3 h4 (by simp [VR])
  | some b => exact h5 (.bool false) ⟨e0, _, m⟩ _ _ ρ ⟨e0.set und d (.bool false), by rw [hd]; exact setD_some hs, n2.run _ (he.set d _)⟩ h1 p h3 h4 (by simp [VR])⟩
omit E in
/-- arguments, an array of one's own read as data -/
def RdA (id n z : Nat) (l : List AV) : List AV → List AV → Prop
  | [], [] => True
  | a :: r, b :: s => (a = b ∨ (a = .own id n z ∧ b = .rsl n z l)) ∧ RdA id n z l r s
  | _, _ => False
omit E in
/-- values that name no memory -/
def flat1 : AV → Bool
  | .bool _ => true
  | .int _ _ => true
  | .str _ => true
  | _ => false
omit E in
def flats : List AV → Bool
  | [] => true
  | a :: l => (match flat1 a with | true => flats l | false => false)
omit E in
def flatV (v : AV) : Bool := match v with | .tup l => flats l | v => flat1 v
omit E in
theorem flat1_ok {ρ σ : Map} {v : AV} (h : flat1 v = true) {x : Value} (q : VR ρ v x) : VR σ v x := by
  cases v <;> simp only [flat1] at h <;> first | (cases h; done) | skip
  · simpa [VR] using q
  · simpa [VR] using q
  · simpa [VR] using q
omit E in
theorem flats_ok {ρ σ : Map} : ∀ {l : List AV} {L : List Value}, flats l = true → VRs ρ l L → VRs σ l L
  | [], L, _, q => by simpa [VRs] using q
  | a :: l, L, h, q => by
    simp only [flats] at h
    split at h
    · rename_i ha
      simp only [VRs] at q ⊢
      obtain ⟨x, r, e1, e2, e3⟩ := q
      exact ⟨x, r, flat1_ok ha e1, flats_ok h e2, e3⟩
    · cases h
omit E in
theorem flat_ok {ρ σ : Map} {v : AV} (h : flatV v = true) {x : Value} (q : VR ρ v x) : VR σ v x := by
  unfold flatV at h
  split at h
  · simp only [VR] at q ⊢
    obtain ⟨L, hl, e⟩ := q
    exact ⟨L, flats_ok h hl, e⟩
  · exact flat1_ok h q
omit E in
theorem rdA_ok {ρ σ : Map} {id n z : Nat} {l : List AV} (hs : Sub ρ.d σ.d) (hr : ∀ S, VR ρ (.own id n z) S → VR σ.d (.rsl n z l) S) : ∀ {a b : List AV} {A : List Value}, RdA id n z l a b → datsB b = true → VRs ρ a A → VRs σ.d b A
  | [], [], A, _, _, h => by simpa [VRs] using h
  | [], _ :: _, A, h, _, _ => h.elim
  | _ :: _, [], A, h, _, _ => h.elim
  | u :: a, v :: b, A, ⟨h1, h2⟩, hd, h => by
    simp only [datsB] at hd
    split at hd
    · rename_i hv
      simp only [VRs] at h ⊢
      obtain ⟨x, r, e1, e2, e3⟩ := h
      refine ⟨x, r, ?_, rdA_ok hs hr h2 hd e2, e3⟩
      rcases h1 with rfl | ⟨rfl, rfl⟩
      · exact VR.mono hs _ (dat_ok _ hv e1)
      · exact hr x e1
    · cases hd
/-- A CALL of what only reads, an array of one's own among the arguments -/
theorem Ops.callR (id : Nat) {d ty n z : Nat} {v : AV} {cl : Call} {f : Operand} {g : FuncId} {first cap vs args : List AV} {l : List AV} (hd : o.dst = some d) (hs : Nat.ble (d + 1) sz = true) (hw : Want all L o true) (ho : o.op = .call cl) (hc : cl.callee = .value f) (hf : evL L f = some (.fn (.func g) first cap))
    (hv : evsL L cl.args.toList = some vs) (hg : h.get id = .arr ty z n l) (hk : KOk X.c g args v) (hra : RdA id n z l (first ++ vs ++ cap) args) (hdt : datsB args = true) (hfl : flatV v = true) (nx : Ops X sz rd all rest k ((d, v) :: L) h m Q) : Ops X sz rd all (o :: rest) k L h m Q := ⟨fun e0 he => by
  have _hE := E
  refine TriOps.cons (hw e0 he) (K := fun s' => RunK X sz rd k Q .normal s') ?_
  intro ro ρ w a next Q' h1 p h3 h4 h5
  refine ⟨fun _ _ => trivial, ?_⟩
  rw [show (wideR ro).round = ro from rfl, Oper.semAt_eq ro a.eval o (by rw [ho]; intro d q; cases q)]
  have hfv := ev_ok h3 f
  rw [he.ev hf] at hfv
  simp only [VR, FR] at hfv
  obtain ⟨f', Fs, C, e1, e2, e3, e4⟩ := hfv
  subst e1
  have hargs := evs_ok h3 cl.args.toList
  rw [he.evs hv] at hargs
  have hA := VRs.append (VRs.append e2 hargs) e3
  -- the array, as data for a while
  obtain ⟨F, f1, f2, f3, f4⟩ : ∃ F : Nat → List Value, (∀ (b j : Nat) (x : Value), (ρ.F b)[j]? = some x → (F b)[j]? = some x) ∧ FzW F w ∧ (∀ b, ρ.F b = F b ∨ ρ.F b = []) ∧ ∀ S, VR ρ (.own id n z) S → VR (fzm F) (.rsl n z l) S := by
    by_cases hn : n = 0
    · refine ⟨ρ.F, fun _ _ _ e => e, p.hr.fz, fun _ => .inl rfl, fun S hS => ?_⟩
      obtain ⟨q1, q2⟩ := own0 p hg hn hS (fzm ρ.F)
      subst hn; rw [q2]; exact q1
    · obtain ⟨h0, ⟨c0, _⟩ | ⟨B, N, C2, g1, g2, g3, g4⟩⟩ := p.hr.av id ty z n l hg
      · exact absurd c0 hn
      obtain ⟨N', i1, i2, i3, i4, i5, ro', L0, l1, l3⟩ := p.hr.arrAt hg g2 (.inl hn)
      have hFB : ρ.F B = [] := p.hr.F_row g1 (by unfold Heap.ok; rw [hg]; trivial) (fun r => by rw [hg]; exact fun q => by cases q)
      have k1 : ∀ b, b ≠ B → (fun b => if b = B then L0 else ρ.F b) b = ρ.F b := fun b q => if_neg q
      have k2 : (fun b => if b = B then L0 else ρ.F b) B = L0 := if_pos rfl
      have k3 : ∀ (b j : Nat) (x : Value), (ρ.F b)[j]? = some x → ((fun b => if b = B then L0 else ρ.F b) b)[j]? = some x := fun b j x q => by
        by_cases hb : b = B
        · subst hb; rw [hFB] at q; simp at q
        · rw [k1 b hb]; exact q
      refine ⟨fun b => if b = B then L0 else ρ.F b, k3, fun b j x q => ?_, fun b => ?_, fun S hS => ?_⟩
      · by_cases hb : b = B
        · subst hb; rw [k2] at q; exact l3 j x q
        · rw [k1 b hb] at q; exact p.hr.fz b j x q
      · by_cases hb : b = B
        · subst hb; exact .inr hFB
        · exact .inl (k1 b hb).symm
      · simp only [VR] at hS
        rw [g2] at hS
        obtain ⟨q, _⟩ := hS
        cases q
        simp only [VR]
        refine ⟨h0, .inr ⟨B, 0, C2, L0, rfl, g3, ?_, fun j x q => ?_⟩⟩
        · exact VRs.mono (ρ := ρ.d) (σ := (fzm (fun b => if b = B then L0 else ρ.F b)).d) ⟨(fun _ _ e => by cases e), k3, (fun _ _ _ e => by cases e)⟩ l l1
        · show ((fun b => if b = B then L0 else ρ.F b) B)[0 + j]? = some x
          rw [k2, Nat.zero_add]; exact q
  have hA2 : VRs (fzm F) args (Fs ++ cl.args.toList.map a.eval ++ C) := rdA_ok (σ := fzm F) ⟨(fun _ _ e => by cases e), f1, (fun _ _ _ e => by cases e)⟩ f4 hra hdt hA
  obtain ⟨nxt, w1, q1, q2⟩ := hk F w _ f2 hA2
  have hrun : (execOp a.eval o).run X.c.P w = .ok nxt w1 := by
    rw [← q1]
    simp only [execOp, ho, resolve, hc, e4, Deferred.ofValue, Sem.run_bind, Sem.run_pure, Result.andThen_ok, invoke]
    congr 2
    apply Array.ext'; simp
  rw [hrun]
  refine uponIn_of_next q2 fun zz w' ⟨x, F', y1, y2, y3, y4⟩ => ?_
  -- and one's own again
  let F2 : Nat → List Value := fun b => @ite _ (b < w.heap.size) (Nat.decLt _ _) (ρ.F b) (F' b)
  have s1 : ∀ b, b < w.heap.size → F2 b = ρ.F b := fun b q => if_pos q
  have s2 : ∀ b, ¬ b < w.heap.size → F2 b = F' b := fun b q => if_neg q
  have s3 : ∀ (b j : Nat) (x : Value), (ρ.F b)[j]? = some x → (F2 b)[j]? = some x := fun b j u q => by
    by_cases hb : b < w.heap.size
    · rw [s1 b hb]; exact q
    · rw [s2 b hb]; exact y1 b j u (f1 b j u q)
  have s4 : FzW F2 w' := fun b j u q => by
    by_cases hb : b < w.heap.size
    · rw [s1 b hb] at q; exact y3 b j u (y1 b j u (f1 b j u q))
    · rw [s2 b hb] at q; exact y3 b j u q
  have hS : Sub ρ ⟨ρ.m, F2, ρ.V⟩ := ⟨fun _ _ e => e, s3, fun _ _ _ e => e⟩
  exact h5 v ⟨e0, _, m⟩ zz w' ⟨ρ.m, F2, ρ.V⟩ ⟨e0.set und d v, by rw [hd]; exact setD_some hs, nx.run _ (he.set d v)⟩ (h1.mono hS) (p.frz x s3 s1 s4) (h3.mono hS) (h4.mono hS) (flat_ok hfl y4)⟩
end
end Go.Px
end
/- FhA -/
section
set_option linter.unusedVariables false
namespace Go.Px.Fh
open Go.Proofs Go.Px.Fx
def tbF : List (Nat × TE) := [(1, ⟨.func, 1, 8, .nilfn⟩),
  (2, ⟨.int .i64, 1, 8, .int .i64 0⟩),
  (3, ⟨.int .i64, 1, 8, .int .i64 0⟩),
  (4, ⟨.bool, 1, 1, .bool false⟩),
  (9, ⟨.str, 1, 16, .str []⟩),
  (20, ⟨.ifc, 1, 16, .nilifc⟩),
  (24, ⟨.slice 50, 1, 24, .nilsl⟩),
  (25, ⟨.slice 9, 1, 24, .nilsl⟩),
  (29, ⟨.struct [(0, 3), (1, 2), (2, 9)], 3, 32, .agg [.int .i64 0, .int .i64 0, .str []]⟩),
  (31, ⟨.slice 41, 1, 24, .nilsl⟩),
  (33, ⟨.struct [(0, 9), (1, 25), (2, 31)], 3, 64, .agg [.str [], .nilsl, .nilsl]⟩),
  (38, ⟨.slice 43, 1, 24, .nilsl⟩),
  (41, ⟨.struct [(0, 3), (1, 9), (2, 24), (3, 9), (4, 31)], 5, 88, .agg [.int .i64 0, .str [], .nilsl, .str [], .nilsl]⟩),
  (43, ⟨.struct [(0, 9), (1, 3), (2, 4)], 3, 32, .agg [.str [], .int .i64 0, .bool false]⟩),
  (50, ⟨.struct [(0, 9), (1, 29)], 4, 48, .agg [.str [], .int .i64 0, .int .i64 0, .str []]⟩),
  (55, ⟨.func, 1, 8, .nilfn⟩),
  (56, ⟨.func, 1, 8, .nilfn⟩),
  (63, ⟨.func, 1, 8, .nilfn⟩),
  (76, ⟨.func, 1, 8, .nilfn⟩),
  (77, ⟨.slice 25, 1, 24, .nilsl⟩)]
theorem eF : Env cF tbF := ⟨cF_ok, TbP.at_ (tb := tbF) ⟨⟨by kernel_rfl, by kernel_rfl, by kernel_rfl⟩, ⟨by kernel_rfl, by kernel_rfl, by kernel_rfl⟩, ⟨by kernel_rfl, by kernel_rfl, by kernel_rfl⟩, ⟨by kernel_rfl, by kernel_rfl, by kernel_rfl⟩, ⟨by kernel_rfl, by kernel_rfl, by kernel_rfl⟩, ⟨by kernel_rfl, by kernel_rfl, by kernel_rfl⟩, ⟨by kernel_rfl, by kernel_rfl, by kernel_rfl⟩, ⟨by kernel_rfl, by kernel_rfl, by kernel_rfl⟩, ⟨by kernel_rfl, by kernel_rfl, by kernel_rfl⟩, ⟨by kernel_rfl, by kernel_rfl, by kernel_rfl⟩, ⟨by kernel_rfl, by kernel_rfl, by kernel_rfl⟩, ⟨by kernel_rfl, by kernel_rfl, by kernel_rfl⟩, ⟨by kernel_rfl, by kernel_rfl, by kernel_rfl⟩, ⟨by kernel_rfl, by kernel_rfl, by kernel_rfl⟩, ⟨by kernel_rfl, by kernel_rfl, by kernel_rfl⟩, ⟨by kernel_rfl, by kernel_rfl, by kernel_rfl⟩, ⟨by kernel_rfl, by kernel_rfl, by kernel_rfl⟩, ⟨by kernel_rfl, by kernel_rfl, by kernel_rfl⟩, ⟨by kernel_rfl, by kernel_rfl, by kernel_rfl⟩, ⟨by kernel_rfl, by kernel_rfl, by kernel_rfl⟩, trivial⟩, fun i r q => by rw [show cF.g0.get i = .none from h0_get i] at q; cases q⟩
/-- the first place where it holds; -1: nowhere -/
noncomputable def idxP (P : Str → Prop) (l : List Str) : Int := bif l.any (fun s => bd (P s)) then (l.findIdx (fun s => bd (P s)) : Int) else -1
theorem idxP_hit {P : Str → Prop} {l : List Str} {i : Nat} (hi : i < l.length) (h1 : P (l.getD i default)) (h2 : ∀ j, j < i → ¬ P (l.getD j default)) : idxP P l = i := by
  have e : l.getD i default = l[i] := by rw [List.getD_eq_getElem?_getD, List.getElem?_eq_getElem hi]; rfl
  have a : l.any (fun s => bd (P s)) = true := List.any_eq_true.2 ⟨l[i], List.getElem_mem hi, by rw [bd_of (e ▸ h1)]⟩
  have f : l.findIdx (fun s => bd (P s)) = i := by
    refine (List.findIdx_eq hi).2 ⟨by rw [bd_of (e ▸ h1)], fun j hj => ?_⟩
    have := h2 j hj
    rw [List.getD_eq_getElem?_getD, List.getElem?_eq_getElem (by omega)] at this
    exact bd_no this
  unfold idxP
  rw [a, f]; rfl
theorem idxP_no {P : Str → Prop} {l : List Str} (h : ∀ j, j < l.length → ¬ P (l.getD j default)) : idxP P l = -1 := by
  have a : l.any (fun s => bd (P s)) = false := List.any_eq_false.2 fun s hs => by
    obtain ⟨j, hj, e⟩ := List.getElem_of_mem hs
    have := h j hj
    rw [List.getD_eq_getElem?_getD, List.getElem?_eq_getElem hj] at this
    have := bd_no (p := P l[j]) this
    rw [← e, this]; simp
  unfold idxP
  rw [a]; rfl
theorem idxP_ge {P : Str → Prop} {l : List Str} : 0 ≤ idxP P l ↔ ∃ s ∈ l, P s := by
  by_cases h : ∃ s ∈ l, P s
  · refine ⟨fun _ => h, fun _ => ?_⟩
    obtain ⟨s, hs, hp⟩ := h
    have a : l.any (fun s => bd (P s)) = true := List.any_eq_true.2 ⟨s, hs, by rw [bd_of hp]⟩
    unfold idxP
    rw [a]; simp
  · refine ⟨fun q => ?_, fun q => absurd q h⟩
    rw [idxP_no fun j hj hp => h ⟨_, getD_mem hj, hp⟩] at q
    omega
end Go.Px.Fh
end
/- FhB -/
section
set_option linter.unusedVariables false
set_option linter.unusedSimpArgs false
set_option maxHeartbeats 4000000
namespace Go.Px.Fh
open Go.Proofs Go.Px.Fx
attribute [local irreducible] Go.Px.KOk
theorem k31 (s : Str) (l : List Str) (hl : l.length ≤ 2000000) : KOk cF 31 [sA s, strsA l] (.bool (bd (s ∈ l))) := by
  refine KOk.of cF_ok eF.g Try.func31 rfl (Nat.le_of_ble_eq_true rfl) fun w F => ?_
  repeat' first | refine Go.seq ?_ | refine Go.region rfl ?_ | refine Ops.nil ?_ | refine Ops.val eF rfl rfl (by first | exact Want.no rfl | exact Want.tT rfl rfl rfl rfl | exact Want.fF rfl rfl rfl rfl) (by first | exact Hop.assign rfl rfl) ?_ | refine Go.block ?_
  refine Go.loop (fun i : Nat => [(0, sA s), (1, strsA l), (5, .int .i64 i)]) (fun _ => hS) (fun i => i ≤ l.length ∧ ∀ j, j < i → l.getD j default ≠ s) (fun i => l.length - i) 0 ⟨by omega, fun j hj => by omega⟩ ⟨rfl, rfl, rfl, trivial⟩ rfl (fun i hP ih => ?_)
  obtain ⟨hi, hn⟩ := hP
  repeat' first | refine Go.seq ?_ | refine Go.region rfl ?_ | refine Ops.nil ?_ | refine Ops.val eF rfl rfl (by first | exact Want.no rfl | exact Want.tT rfl rfl rfl rfl | exact Want.fF rfl rfl rfl rfl) (by first | exact Hop.move rfl rfl | exact Hop.assign rfl rfl | exact Hop.lss rfl rfl rfl | exact Hop.eqS rfl rfl rfl | exact Hop.add rfl rfl rfl (by omega) | exact Hop.idx eF rfl rfl rfl rfl rfl rfl rfl (fun _ => rfl) (by omega) | exact Hop.ldR eF rfl rfl rfl rfl rfl | exact Hop.lenD eF rfl rfl rfl rfl rfl rfl rfl) ?_ | refine Go.condPt rfl (fun _ => ?_) (fun _ => ?_) | refine Go.block ?_ | refine Go.unblk ?_ | refine Go.skip ?_ | refine Go.exit rfl ?_ | refine Go.retF rfl ?_ rfl
  all_goals try simp only [Int.toNat_natCast] at *
  all_goals first
    | (refine out_t ?_
       have hlt : i < l.length := by omega
       rename_i q
       rw [← q, List.getD_eq_getElem?_getD, List.getElem?_eq_getElem hlt]
       exact List.getElem_mem hlt)
    | (refine out_f fun h => ?_
       obtain ⟨j, hj, e⟩ := List.getElem_of_mem h
       refine hn j (by omega) ?_
       rw [List.getD_eq_getElem?_getD, List.getElem?_eq_getElem hj]
       exact e)
    | (refine Go.to (ih (i + 1) ⟨by omega, fun j hj => ?_⟩ (by omega)) ⟨rfl, rfl, rfl, trivial⟩
       rcases lt_succ_cases hj with h | rfl
       · exact hn j h
       · assumption)
theorem k47 (l : List Str) (s : Str) (hl : l.length ≤ 2000000) : KOk cF 47 [strsA l, sA s] (.int .i64 (idxP (fun x => s = x) l)) := by
  refine KOk.of cF_ok eF.g Try.func47 rfl (Nat.le_of_ble_eq_true rfl) fun w F => ?_
  repeat' first | refine Go.seq ?_ | refine Go.region rfl ?_ | refine Ops.nil ?_ | refine Ops.val eF rfl rfl (by first | exact Want.no rfl | exact Want.tT rfl rfl rfl rfl | exact Want.fF rfl rfl rfl rfl) (by first | exact Hop.move rfl rfl | exact Hop.assign rfl rfl | exact Hop.lenD eF rfl rfl rfl rfl rfl rfl rfl) ?_ | refine Go.block ?_
  refine Go.loop (fun i : Nat => [(0, strsA l), (1, sA s), (7, .int .i64 l.length), (8, .int .i64 i)]) (fun _ => hS) (fun i => i ≤ l.length ∧ ∀ j, j < i → ¬ s = l.getD j default) (fun i => l.length - i) 0 ⟨by omega, fun j hj => by omega⟩ ⟨rfl, rfl, rfl, rfl, trivial⟩ rfl (fun i hP ih => ?_)
  obtain ⟨hi, hn⟩ := hP
  repeat' first | refine Go.seq ?_ | refine Go.region rfl ?_ | refine Ops.nil ?_ | refine Ops.val eF rfl rfl (by first | exact Want.no rfl | exact Want.tT rfl rfl rfl rfl | exact Want.fF rfl rfl rfl rfl) (by first | exact Hop.move rfl rfl | exact Hop.assign rfl rfl | exact Hop.lss rfl rfl rfl | exact Hop.eqS rfl rfl rfl | exact Hop.add rfl rfl rfl (by omega) | exact Hop.idx eF rfl rfl rfl rfl rfl rfl rfl (fun _ => rfl) (by omega) | exact Hop.ldR eF rfl rfl rfl rfl rfl) ?_ | refine Go.condPt rfl (fun _ => ?_) (fun _ => ?_) | refine Go.block ?_ | refine Go.unblk ?_ | refine Go.skip ?_ | refine Go.exit rfl ?_ | refine Go.retF rfl ?_ rfl
  all_goals try simp only [Int.toNat_natCast] at *
  all_goals first
    | (rename_i q
       rw [idxP_hit (i := i) (by omega) q hn])
    | (rw [idxP_no (fun j hj => hn j (by omega))])
    | (refine Go.to (ih (i + 1) ⟨by omega, fun j hj => ?_⟩ (by omega)) ⟨rfl, rfl, rfl, rfl, trivial⟩
       rcases lt_succ_cases hj with h | rfl
       · exact hn j h
       · assumption)
  all_goals rfl
theorem k29 (l : List Str) (s : Str) (hl : l.length ≤ 2000000) : KOk cF 29 [strsA l, sA s] (.bool (bd (s ∈ l))) := by
  have k1 := k47 l s hl
  refine KOk.of cF_ok eF.g Try.func29 rfl (Nat.le_of_ble_eq_true rfl) fun w F => ?_
  repeat' first | refine Go.seq ?_ | refine Go.region rfl ?_ | refine Ops.nil ?_ | refine Ops.val eF rfl rfl (by first | exact Want.no rfl | exact Want.tT rfl rfl rfl rfl | exact Want.fF rfl rfl rfl rfl) (by first | exact Hop.move rfl rfl | exact Hop.assign rfl rfl | exact Hop.geq rfl rfl rfl) ?_ | refine Ops.call eF rfl rfl (by first | exact Want.no rfl | exact Want.tT rfl rfl rfl rfl | exact Want.fF rfl rfl rfl rfl) rfl rfl rfl rfl (k1) rfl ?_ | refine Go.retF rfl ?_ rfl
  all_goals exact out_e (by rw [idxP_ge]; exact ⟨fun ⟨x, hx, e⟩ => e ▸ hx, fun h => ⟨s, h, rfl⟩⟩)
theorem k28 (l : List Str) (s : Str) (hl : l.length ≤ 2000000) : KOk cF 28 [sA s, .rptr [strsA l]] (.bool (bd (¬ s ∈ l))) := by
  have k1 := k29 l s hl
  refine KOk.of cF_ok eF.g Try.func28 rfl (Nat.le_of_ble_eq_true rfl) fun w F => ?_
  repeat' first | refine Go.seq ?_ | refine Go.region rfl ?_ | refine Ops.nil ?_ | refine Ops.val eF rfl rfl (by first | exact Want.no rfl | exact Want.tT rfl rfl rfl rfl | exact Want.fF rfl rfl rfl rfl) (by first | exact Hop.move rfl rfl | exact Hop.assign rfl rfl | exact Hop.not rfl rfl | exact Hop.ldR eF rfl rfl rfl rfl rfl) ?_ | refine Ops.call eF rfl rfl (by first | exact Want.no rfl | exact Want.tT rfl rfl rfl rfl | exact Want.fF rfl rfl rfl rfl) rfl rfl rfl rfl (k1) rfl ?_ | refine Go.retF rfl ?_ rfl
  all_goals exact out_n Iff.rfl
theorem k46 {P : Str → Prop} {g : FuncId} {cap : List AV} (hc : datsB cap = true) (l : List Str) (hp : ∀ s, KOk cF g (sA s :: cap) (.bool (bd (P s)))) (hl : l.length ≤ 2000000) : KOk cF 46 [strsA l, .fn (.func g) [] cap] (.int .i64 (idxP P l)) := by
  refine KOk.of cF_ok eF.g Try.func46 rfl (Nat.le_of_ble_eq_true rfl) fun w F => ?_
  repeat' first | refine Go.seq ?_ | refine Go.region rfl ?_ | refine Ops.nil ?_ | refine Ops.val eF rfl rfl (by first | exact Want.no rfl | exact Want.tT rfl rfl rfl rfl | exact Want.fF rfl rfl rfl rfl) (by first | exact Hop.move rfl rfl | exact Hop.assign rfl rfl | exact Hop.lenD eF rfl rfl rfl rfl rfl rfl rfl) ?_ | refine Go.block ?_
  refine Go.loop (fun i : Nat => [(0, strsA l), (1, .fn (.func g) [] cap), (7, .int .i64 l.length), (8, .int .i64 i)]) (fun _ => hS) (fun i => i ≤ l.length ∧ ∀ j, j < i → ¬ P (l.getD j default)) (fun i => l.length - i) 0 ⟨by omega, fun j hj => by omega⟩ ⟨rfl, rfl, rfl, rfl, trivial⟩ rfl (fun i hP ih => ?_)
  obtain ⟨hi, hn⟩ := hP
  repeat' first | refine Go.seq ?_ | refine Go.region rfl ?_ | refine Ops.nil ?_ | refine Ops.callC eF rfl rfl (by first | exact Want.no rfl | exact Want.tT rfl rfl rfl rfl | exact Want.fF rfl rfl rfl rfl) rfl rfl rfl rfl (hp (l.getD (i : Int).toNat default)) hc ?_ | refine Ops.val eF rfl rfl (by first | exact Want.no rfl | exact Want.tT rfl rfl rfl rfl | exact Want.fF rfl rfl rfl rfl) (by first | exact Hop.move rfl rfl | exact Hop.assign rfl rfl | exact Hop.lss rfl rfl rfl | exact Hop.add rfl rfl rfl (by omega) | exact Hop.idx eF rfl rfl rfl rfl rfl rfl rfl (fun _ => rfl) (by omega) | exact Hop.ldR eF rfl rfl rfl rfl rfl) ?_ | refine Go.condPt rfl (fun _ => ?_) (fun _ => ?_) | refine Go.block ?_ | refine Go.unblk ?_ | refine Go.skip ?_ | refine Go.exit rfl ?_ | refine Go.retF rfl ?_ rfl
  all_goals try simp only [Int.toNat_natCast] at *
  all_goals first
    | (rename_i q
       rw [idxP_hit (i := i) (by omega) q hn])
    | (rw [idxP_no (fun j hj => hn j (by omega))])
    | (refine Go.to (ih (i + 1) ⟨by omega, fun j hj => ?_⟩ (by omega)) ⟨rfl, rfl, rfl, rfl, trivial⟩
       rcases lt_succ_cases hj with h | rfl
       · exact hn j h
       · assumption)
  all_goals rfl
noncomputable def r13_0 : List Oper := ((drawn (Try.f13.body.getD .skip))[0]?).getD []
theorem dr13_0 : chkOrd cF r13_0 [0, 1, 2, 3, 4, 5, 6, 7, 8] = true := by kernel_rfl
theorem k13 (a b : List Str) (ha : a.length ≤ 2000000) : KOk cF 13 [strsA a, strsA b] (.bool (bd (a = b))) := by
  refine KOk.of cF_ok eF.g Try.func13 rfl (Nat.le_of_ble_eq_true rfl) fun w F => ?_
  repeat' first | refine Go.seq ?_ | refine Go.region rfl ?_ | refine Ops.nil ?_ | refine Ops.val eF rfl rfl (by first | exact Want.no rfl | exact Want.tT rfl rfl rfl rfl | exact Want.fF rfl rfl rfl rfl) (by first | exact Hop.move rfl rfl | exact Hop.assign rfl rfl | exact Hop.neq rfl rfl rfl | exact Hop.lenD eF rfl rfl rfl rfl rfl rfl rfl) ?_ | refine Go.condNt rfl (fun _ => ?_) (fun _ => ?_) | refine Go.block ?_ | refine Go.skip ?_ | refine Go.retF rfl ?_ rfl
  · rename_i q
    exact out_f fun e => q (by rw [e])
  rename_i q
  have hlen : a.length = b.length := by omega
  refine Go.loop (fun i : Nat => [(0, strsA a), (1, strsA b), (12, .int .i64 a.length), (13, .int .i64 i)]) (fun _ => hS) (fun i => i ≤ a.length ∧ ∀ j, j < i → a.getD j default = b.getD j default) (fun i => a.length - i) 0 ⟨by omega, fun j hj => by omega⟩ ⟨rfl, rfl, rfl, rfl, trivial⟩ rfl (fun i hP ih => ?_)
  obtain ⟨hi, hn⟩ := hP
  have hib : i < a.length → i < b.length := fun q => by omega
  repeat' first | refine Go.seq ?_ | refine Go.region rfl ?_ | refine Ops.nil ?_ | refine Ops.val eF rfl rfl (by first | exact Want.no rfl | exact Want.tT rfl rfl rfl rfl | exact Want.fF rfl rfl rfl rfl) (by first | exact Hop.move rfl rfl | exact Hop.assign rfl rfl | exact Hop.lss rfl rfl rfl) ?_ | refine Go.condPt rfl (fun _ => ?_) (fun _ => ?_) | refine Go.block ?_ | refine Go.skip ?_ | refine Go.exit rfl ?_ | refine Go.retF rfl ?_ rfl
  all_goals try simp only [Int.toNat_natCast] at *
  case refine_2 =>
    refine out_t ?_
    refine List.ext_getElem hlen fun j h1 h2 => ?_
    have := hn j (by omega)
    rwa [List.getD_eq_getElem?_getD, List.getD_eq_getElem?_getD, List.getElem?_eq_getElem h1, List.getElem?_eq_getElem h2] at this
  refine Go.draw eF hm [] [0, 1, 2, 3, 4, 5, 6, 7, 8] dr13_0 ?_
  repeat' first | refine Dr.nil ?_ | refine Dr.pure rfl rfl rfl rfl (by first | exact Want.no rfl | exact Want.tT rfl rfl rfl rfl | exact Want.fF rfl rfl rfl rfl) (by first | exact Hop.move rfl rfl | exact Hop.neS rfl rfl rfl | exact Hop.idx eF rfl rfl rfl rfl rfl rfl rfl (fun _ => rfl) (by omega) | exact Hop.ldR eF rfl rfl rfl rfl rfl) ?_ | refine Dr.light rfl rfl rfl rfl (by first | exact Want.no rfl | exact Want.tT rfl rfl rfl rfl | exact Want.fF rfl rfl rfl rfl) (by first | exact Hop.ldR eF rfl rfl rfl rfl rfl) ?_
  repeat' first | refine Go.seq ?_ | refine Go.region rfl ?_ | refine Ops.nil ?_ | refine Ops.val eF rfl rfl (by first | exact Want.no rfl | exact Want.tT rfl rfl rfl rfl | exact Want.fF rfl rfl rfl rfl) (by first | exact Hop.move rfl rfl | exact Hop.assign rfl rfl | exact Hop.add rfl rfl rfl (by omega)) ?_ | refine Go.condNt rfl (fun _ => ?_) (fun _ => ?_) | refine Go.unblk ?_ | refine Go.skip ?_ | refine Go.retF rfl ?_ rfl
  all_goals try simp only [Int.toNat_natCast] at *
  all_goals first
    | (rename_i q
       exact out_f fun e => q (by rw [e]))
    | (rename_i q
       refine Go.to (ih (i + 1) ⟨by omega, fun j hj => ?_⟩ (by omega)) ⟨rfl, rfl, rfl, rfl, trivial⟩
       rcases lt_succ_cases hj with h | rfl
       · exact hn j h
       · exact q)
end Go.Px.Fh
end
/- FhC -/
section
set_option linter.unusedVariables false
set_option linter.unusedSimpArgs false
set_option maxHeartbeats 4000000
namespace Go.Px.Fh
open Go.Proofs Go.Px.Fx
attribute [local irreducible] Go.Px.KOk
theorem least_at (P : Nat → Prop) : ∀ n, (∀ j, j < n → ¬ P j) ∨ ∃ k, k < n ∧ P k ∧ ∀ j, j < k → ¬ P j
  | 0 => .inl fun j hj => by omega
  | n + 1 => by
    rcases least_at P n with h | ⟨k, h1, h2, h3⟩
    · by_cases hn : P n
      · exact .inr ⟨n, by omega, hn, h⟩
      · refine .inl fun j hj => ?_
        rcases Nat.lt_or_ge j n with q | q
        · exact h j q
        · rw [show j = n by omega]; exact hn
    · exact .inr ⟨k, by omega, h2, h3⟩
theorem idxP_spec (P : Str → Prop) (l : List Str) : (idxP P l = -1 ∧ ∀ j, j < l.length → ¬ P (l.getD j default)) ∨ ∃ k, k < l.length ∧ idxP P l = (k : Nat) ∧ P (l.getD k default) ∧ ∀ j, j < k → ¬ P (l.getD j default) := by
  rcases least_at (fun j => P (l.getD j default)) l.length with h | ⟨k, h1, h2, h3⟩
  · exact .inl ⟨idxP_no h, h⟩
  · exact .inr ⟨k, h1, idxP_hit h1 h2 h3, h2, h3⟩
noncomputable def keep (P : Str → Prop) (l : List Str) : List Str := l.filter fun s => bd (¬ P s)
theorem keep_app (P : Str → Prop) (a b : List Str) : keep P (a ++ b) = keep P a ++ keep P b := List.filter_append _ _
theorem keep_t {P : Str → Prop} {s : Str} (h : P s) : keep P [s] = [] := by
  unfold keep
  rw [List.filter_cons, bd_no (not_not_intro h)]; rfl
theorem keep_f {P : Str → Prop} {s : Str} (h : ¬ P s) : keep P [s] = [s] := by
  unfold keep
  rw [List.filter_cons, bd_of h]; rfl
theorem keep_none {P : Str → Prop} : ∀ {l : List Str}, (∀ j, j < l.length → ¬ P (l.getD j default)) → keep P l = l
  | [], _ => rfl
  | s :: l, h => by
    have h0 : ¬ P s := h 0 (by simp)
    have ih := keep_none (P := P) (l := l) fun j hj => h (j + 1) (by simpa using hj)
    rw [show s :: l = [s] ++ l from rfl, keep_app, keep_f h0, ih]
theorem take_get {l : List Str} {i j : Nat} (h : j < i) : (l.take i).getD j default = l.getD j default := by
  rw [List.getD_eq_getElem?_getD, List.getD_eq_getElem?_getD, List.getElem?_take, if_pos h]
theorem set_take {l : List Str} {i : Nat} {x : Str} (h : i < l.length) : (l.set i x).take (i + 1) = l.take i ++ [x] := by
  rw [List.set_eq_take_append_cons_drop, if_pos h, List.take_append, List.length_take, Nat.min_eq_left (by omega)]
  rw [List.take_of_length_le (by rw [List.length_take]; omega)]
  simp
/-- how far: places gone through, places kept, what stands there -/
structure Dl where
  j : Nat
  i : Nat
  a : List Str
def DlP (P : Str → Prop) (l : List Str) (d : Dl) : Prop := d.j ≤ l.length ∧ d.i < d.j ∧ d.a.length = l.length ∧ d.a.take d.i = keep P (l.take d.j) ∧ ∀ t, d.j ≤ t → d.a.getD t default = l.getD t default
theorem dl_start {P : Str → Prop} {l : List Str} {k : Nat} (h1 : k < l.length) (h2 : P (l.getD k default)) (h3 : ∀ j, j < k → ¬ P (l.getD j default)) : DlP P l ⟨k + 1, k, l⟩ := by
  refine ⟨h1, Nat.lt_succ_self k, rfl, ?_, fun _ _ => rfl⟩
  show l.take k = keep P (l.take (k + 1))
  rw [take_succ' h1, keep_app, keep_t h2, List.append_nil, keep_none fun j hj => ?_]
  have hj : j < k := by rw [List.length_take] at hj; omega
  rw [take_get hj]; exact h3 j hj
theorem dl_out {P : Str → Prop} {l : List Str} {d : Dl} (h : DlP P l d) (hj : d.j < l.length) (hp : P (l.getD d.j default)) : DlP P l ⟨d.j + 1, d.i, d.a⟩ := by
  obtain ⟨a1, a2, a3, a4, a5⟩ := h
  refine ⟨hj, Nat.lt_succ_of_lt a2, a3, ?_, fun t ht => a5 t (by have ht : d.j + 1 ≤ t := ht; omega)⟩
  show d.a.take d.i = keep P (l.take (d.j + 1))
  rw [take_succ' hj, keep_app, keep_t hp, List.append_nil]; exact a4
theorem dl_in {P : Str → Prop} {l : List Str} {d : Dl} (h : DlP P l d) (hj : d.j < l.length) (hp : ¬ P (l.getD d.j default)) : DlP P l ⟨d.j + 1, d.i + 1, d.a.set d.i (l.getD d.j default)⟩ := by
  obtain ⟨a1, a2, a3, a4, a5⟩ := h
  refine ⟨hj, Nat.succ_lt_succ a2, by simp only [List.length_set]; exact a3, ?_, fun t ht => ?_⟩
  · show (d.a.set d.i _).take (d.i + 1) = keep P (l.take (d.j + 1))
    rw [set_take (by omega), take_succ' hj, keep_app, keep_f hp, a4]
  · have ht : d.j + 1 ≤ t := ht
    show (d.a.set d.i _).getD t default = _
    rw [← a5 t (by omega), List.getD_eq_getElem?_getD, List.getElem?_set_ne (by omega), List.getD_eq_getElem?_getD]
theorem encS_flat (l : List Str) (i : Nat) (x : List Str) (hi : i ≤ l.length) : AV.rsl i 1 (((l.take i ++ x).flatMap encS).take (i * 1)) = strsA (l.take i) := by
  rw [flat_take (z := 1) (fun _ => rfl), List.take_append_of_le_length (by rw [List.length_take]; omega), List.take_take, Nat.min_self]
  unfold strsA dsl
  rw [List.length_take, Nat.min_eq_left hi]
theorem m27 {P : Str → Prop} {g : FuncId} {q : List Str} (l : List Str) (hp : ∀ s, KOk cF g [sA s, .rptr [strsA q]] (.bool (bd (P s)))) (hl : l.length ≤ 100000) : KM cF 27 [.arr 9 1 l.length (l.flatMap encS)] [.own 0 l.length 1, .fn (.func g) [] [.rptr [strsA q]]] (strsA (keep P l)) [.no] := by
  have k1 := k46 (cap := [.rptr [strsA q]]) rfl l hp (by omega)
  refine KM.of (N := 1) (ab := [.arr 9 1 l.length (l.flatMap encS)]) (gv := []) cF_ok eF.g Try.func27 rfl rfl rfl rfl (Nat.le_of_ble_eq_true rfl) rfl rfl rfl rfl rfl rfl fun w F opn gx => ?_
  rcases idxP_spec P l with ⟨e, hn⟩ | ⟨k, h1, e, h2, h3⟩
  · rw [e] at k1
    repeat' first | refine Go.seq ?_ | refine Go.region rfl ?_ | refine Ops.nil ?_ | refine Ops.callR eF 0 rfl rfl (by first | exact Want.no rfl | exact Want.tT rfl rfl rfl rfl | exact Want.fF rfl rfl rfl rfl) rfl rfl rfl rfl rfl k1 ⟨.inr ⟨rfl, rfl⟩, .inl rfl, trivial⟩ rfl rfl ?_ | refine Ops.frzMv eF 4 rfl rfl rfl (by first | exact Want.no rfl | exact Want.tT rfl rfl rfl rfl | exact Want.fF rfl rfl rfl rfl) (by first | exact Hop.move rfl rfl | exact Hop.assign rfl rfl) rfl (by repeat' first | exact trivial | refine And.intro ?_ ?_ | exact .inr trivial | exact .inr (ind_row rfl rfl) | exact .inr rfl | exact .inl rfl | exact .inr (hindL _ _)) rfl rfl rfl rfl ?_ | refine Ops.val eF rfl rfl (by first | exact Want.no rfl | exact Want.tT rfl rfl rfl rfl | exact Want.fF rfl rfl rfl rfl) (by first | exact Hop.move rfl rfl | exact Hop.assign rfl rfl | exact Hop.eql rfl rfl rfl) ?_ | refine Go.condTt rfl (by first | assumption | decide) ?_ | refine Go.retM rfl rfl ?_ ?_ rfl
    · show strsA l = _
      rw [keep_none hn]
    · exact ⟨trivial, trivial⟩
  · rw [e] at k1
    repeat' first | refine Go.seq ?_ | refine Go.region rfl ?_ | refine Ops.nil ?_ | refine Ops.callR eF 0 rfl rfl (by first | exact Want.no rfl | exact Want.tT rfl rfl rfl rfl | exact Want.fF rfl rfl rfl rfl) rfl rfl rfl rfl rfl k1 ⟨.inr ⟨rfl, rfl⟩, .inl rfl, trivial⟩ rfl rfl ?_ | refine Ops.val eF rfl rfl (by first | exact Want.no rfl | exact Want.tT rfl rfl rfl rfl | exact Want.fF rfl rfl rfl rfl) (by first | exact Hop.move rfl rfl | exact Hop.assign rfl rfl | exact Hop.eql rfl rfl rfl | exact Hop.add rfl rfl rfl (by omega)) ?_ | refine Go.condPt rfl (fun _ => ?_) (fun _ => ?_) | refine Go.block ?_ | refine Go.skip ?_ | refine Go.retM rfl rfl ?_ ?_ rfl
    all_goals try (exfalso; omega)
    refine Go.loop (fun d : Dl => [(0, .own 0 l.length 1), (1, .fn (.func g) [] [.rptr [strsA q]]), (5, .int .i64 d.i), (6, .int .i64 d.j)]) (fun d => hq 1 [.arr 9 1 l.length (d.a.flatMap encS)]) (DlP P l) (fun d => l.length - d.j) ⟨k + 1, k, l⟩ (dl_start h1 h2 h3) ⟨rfl, rfl, rfl, rfl, trivial⟩ rfl (fun d hd ih => ?_)
    obtain ⟨a1, a2, a3, a4, a5⟩ := id hd
    repeat' first | refine Go.seq ?_ | refine Go.region rfl ?_ | refine Ops.nil ?_ | refine Ops.val eF rfl rfl (by first | exact Want.no rfl | exact Want.tT rfl rfl rfl rfl | exact Want.fF rfl rfl rfl rfl) (Hop.ldF1 (enc := encS) eF rfl rfl rfl rfl rfl rfl (fun _ => rfl) rfl rfl (by omega)) ?_ | refine Ops.callC eF rfl rfl (by first | exact Want.no rfl | exact Want.tT rfl rfl rfl rfl | exact Want.fF rfl rfl rfl rfl) rfl rfl rfl rfl (hp (d.a.getD (d.j : Int).toNat default)) rfl ?_ | refine Ops.unit eF rfl (by first | exact Want.no rfl | exact Want.tT rfl rfl rfl rfl | exact Want.fF rfl rfl rfl rfl) (Hop.stFG (z := 1) (enc := encS) eF (d.a.getD (d.j : Int).toNat default) rfl rfl rfl rfl rfl rfl rfl rfl (fun _ => rfl) rfl rfl (by omega)) (ArrKeep.arr rfl) ?_ | refine Ops.fromO eF rfl rfl (by first | exact Want.no rfl | exact Want.tT rfl rfl rfl rfl | exact Want.fF rfl rfl rfl rfl) rfl rfl rfl rfl rfl rfl rfl rfl (by omega) ?_ | refine Ops.clearO (l := d.a) (enc := encS) eF [] rfl (by first | exact Want.no rfl | exact Want.tT rfl rfl rfl rfl | exact Want.fF rfl rfl rfl rfl) rfl rfl rfl rfl rfl rfl rfl rfl rfl rfl rfl (fun _ => rfl) rfl rfl rfl (by omega) (by omega) ?_ | refine Ops.uptoO eF 1 rfl rfl (by first | exact Want.no rfl | exact Want.tT rfl rfl rfl rfl | exact Want.fF rfl rfl rfl rfl) rfl rfl rfl rfl rfl rfl rfl rfl rfl ⟨.inl rfl, trivial⟩ rfl rfl rfl (by omega) ?_ | refine Ops.frzMv eF 4 rfl rfl rfl (by first | exact Want.no rfl | exact Want.tT rfl rfl rfl rfl | exact Want.fF rfl rfl rfl rfl) (by first | exact Hop.move rfl rfl | exact Hop.assign rfl rfl) rfl (by repeat' first | exact trivial | refine And.intro ?_ ?_ | exact .inr trivial | exact .inr (ind_row rfl rfl) | exact .inr rfl | exact .inl rfl | exact .inr (hindL _ _)) rfl rfl rfl rfl ?_ | refine Ops.val eF rfl rfl (by first | exact Want.no rfl | exact Want.tT rfl rfl rfl rfl | exact Want.fF rfl rfl rfl rfl) (by first | exact Hop.move rfl rfl | exact Hop.assign rfl rfl | exact Hop.not rfl rfl | exact Hop.lss rfl rfl rfl | exact Hop.add rfl rfl rfl (by omega) | exact Hop.idxO eF rfl rfl rfl rfl rfl rfl rfl (by omega) | exact Hop.lenO eF rfl rfl rfl rfl rfl rfl rfl) ?_ | refine Go.condPt rfl (fun _ => ?_) (fun _ => ?_) | refine Go.condNt rfl (fun _ => ?_) (fun _ => ?_) | refine Go.block ?_ | refine Go.unblk ?_ | refine Go.skip ?_ | refine Go.exit rfl ?_ | refine Go.retM rfl rfl ?_ ?_ rfl
    all_goals try simp only [Int.toNat_natCast] at *
    · rename_i c1 c2
      have hj : d.j < l.length := by omega
      rw [a5 d.j (Nat.le_refl _)] at c2 ⊢
      exact Go.toQ (ih ⟨d.j + 1, d.i + 1, d.a.set d.i (l.getD d.j default)⟩ (dl_in hd hj c2) (by show l.length - (d.j + 1) < _; omega)) rfl eF.g ⟨rfl, rfl, rfl, rfl, trivial⟩ rfl rfl ⟨.inr rfl, trivial⟩ ⟨trivial, trivial⟩ rfl rfl
    · rename_i c1 c2
      have hj : d.j < l.length := by omega
      rw [a5 d.j (Nat.le_refl _)] at c2
      exact Go.toQ (ih ⟨d.j + 1, d.i, d.a⟩ (dl_out hd hj c2) (by show l.length - (d.j + 1) < _; omega)) rfl eF.g ⟨rfl, rfl, rfl, rfl, trivial⟩ rfl rfl ⟨.inr rfl, trivial⟩ ⟨trivial, trivial⟩ rfl rfl
    · have hj : d.j = l.length := by omega
      refine (encS_flat d.a d.i _ (by omega)).trans ?_
      rw [a4, hj, List.take_length]
    · exact ⟨trivial, trivial⟩
end Go.Px.Fh
end
/- FhD -/
section
set_option linter.unusedVariables false
set_option linter.unusedSimpArgs false
set_option maxHeartbeats 4000000
set_option maxRecDepth 20000
namespace Go.Px.Fh
open Go.Proofs Go.Px.Fx
attribute [local irreducible] Go.Px.KOk
theorem eqNe (n z : Nat) (l : List AV) : eqv cF 6 25 (.rsl (n + 1) z l) .nilsl = some false := by kernel_rfl
theorem m25 (l : List Str) (hl : l.length ≤ 100000) : KM cF 25 [] [strsA l] (.own 1 l.length 1) [.no, .arr 9 1 l.length (l.flatMap encS)] := by
  refine KM.of (N := 0) (ab := []) (gv := []) cF_ok eF.g Try.func25 rfl rfl rfl rfl (Nat.le_of_ble_eq_true rfl) rfl rfl rfl rfl rfl rfl fun w F opn gx => ?_
  cases l with
  | nil =>
    repeat' first | refine Go.seq ?_ | refine Go.region rfl ?_ | refine Ops.nil ?_ | refine Ops.val eF rfl rfl (by first | exact Want.no rfl | exact Want.tT rfl rfl rfl rfl | exact Want.fF rfl rfl rfl rfl) (by first | exact Hop.move rfl rfl | exact Hop.assign rfl rfl) ?_
    refine Ops.nilEmp (z := 1) eF rfl rfl (Want.no rfl) rfl rfl rfl rfl rfl ?_ ?_
    · repeat' first | refine Go.seq ?_ | refine Go.region rfl ?_ | refine Ops.nil ?_ | refine Ops.val (d := 2) (v := .nilsl) eF rfl rfl (by first | exact Want.no rfl | exact Want.tT rfl rfl rfl rfl | exact Want.fF rfl rfl rfl rfl) (Hop.assign rfl rfl) (Ops.change (Chg.tokNew 0 9 1 rfl) (Ops.change (Chg.tokS 1 2 9 1 rfl rfl rfl) ?_)) | refine Go.condT rfl ?_ | refine Go.retM rfl rfl ?_ ?_ rfl
      · rfl
      · exact ⟨trivial, rfl, trivial⟩
    · repeat' first | refine Go.seq ?_ | refine Go.region rfl ?_ | refine Ops.nil ?_ | refine Ops.change (Chg.tokS 1 5 9 1 rfl rfl rfl) ?_ | refine Ops.val eF rfl rfl (by first | exact Want.no rfl | exact Want.tT rfl rfl rfl rfl | exact Want.fF rfl rfl rfl rfl) (by first | exact Hop.move rfl rfl | exact Hop.assign rfl rfl) ?_ | refine Ops.csl0 eF 0 rfl rfl (by first | exact Want.no rfl | exact Want.tT rfl rfl rfl rfl | exact Want.fF rfl rfl rfl rfl) rfl rfl rfl rfl rfl ?_ | refine Ops.appendE eF rfl rfl (by first | exact Want.no rfl | exact Want.tT rfl rfl rfl rfl | exact Want.fF rfl rfl rfl rfl) rfl rfl rfl rfl rfl rfl rfl rfl rfl rfl rfl rfl rfl rfl rfl rfl (by repeat' first | exact trivial | refine And.intro ?_ ?_ | exact .inr trivial | exact .inr (ind_row rfl rfl) | exact .inr rfl | exact .inl rfl | exact .inr (hindL _ _)) rfl rfl rfl rfl rfl (by first | rfl | exact ones_flat (fun _ => rfl) _) (by omega) ?_ | refine Go.condF rfl ?_ | refine Go.skip ?_ | refine Go.retM rfl rfl ?_ ?_ rfl
      · rfl
      · exact ⟨trivial, rfl, trivial⟩
  | cons s r =>
    repeat' first | refine Go.seq ?_ | refine Go.region rfl ?_ | refine Ops.nil ?_ | refine Ops.val eF rfl rfl (by first | exact Want.no rfl | exact Want.tT rfl rfl rfl rfl | exact Want.fF rfl rfl rfl rfl) (Hop.eqD rfl rfl rfl rfl (eqNe _ _ _)) ?_ | refine Ops.change (Chg.tokS 1 5 9 1 rfl rfl rfl) ?_ | refine Ops.val eF rfl rfl (by first | exact Want.no rfl | exact Want.tT rfl rfl rfl rfl | exact Want.fF rfl rfl rfl rfl) (by first | exact Hop.move rfl rfl | exact Hop.assign rfl rfl) ?_ | refine Ops.csl0 eF 0 rfl rfl (by first | exact Want.no rfl | exact Want.tT rfl rfl rfl rfl | exact Want.fF rfl rfl rfl rfl) rfl rfl rfl rfl rfl ?_ | refine Ops.appendE eF rfl rfl (by first | exact Want.no rfl | exact Want.tT rfl rfl rfl rfl | exact Want.fF rfl rfl rfl rfl) rfl rfl rfl rfl rfl rfl rfl rfl rfl rfl rfl rfl rfl rfl rfl rfl (by repeat' first | exact trivial | refine And.intro ?_ ?_ | exact .inr trivial | exact .inr (ind_row rfl rfl) | exact .inr rfl | exact .inl rfl | exact .inr (hindL _ _)) rfl rfl rfl rfl rfl (by first | rfl | exact ones_flat (fun _ => rfl) _) (by omega) ?_ | refine Go.condF rfl ?_ | refine Go.skip ?_ | refine Go.retM rfl rfl ?_ ?_ rfl
    · show AV.own 1 (0 + (s :: r).length) 1 = _
      rw [Nat.zero_add]
    · refine ⟨trivial, ?_, trivial⟩
      show AB.arr 9 1 (0 + (s :: r).length) ([] ++ (s :: r).flatMap encS) = AB.arr 9 1 (s :: r).length ((s :: r).flatMap encS)
      rw [Nat.zero_add, List.nil_append]
theorem m58 (n : Nat) (hn : n ≤ 100000) : KM cF 58 [] [.nilsl, .int .i64 n] (.own 1 0 1) [.no, .arr 9 1 0 []] := by
  refine KM.of (N := 0) (ab := []) (gv := []) cF_ok eF.g Try.func58 rfl rfl rfl rfl (Nat.le_of_ble_eq_true rfl) rfl rfl rfl rfl rfl rfl fun w F opn gx => ?_
  by_cases h0 : n = 0
  · subst h0
    repeat' first | refine Go.seq ?_ | refine Go.region rfl ?_ | refine Ops.nil ?_ | refine Ops.val eF rfl rfl (by first | exact Want.no rfl | exact Want.tT rfl rfl rfl rfl | exact Want.fF rfl rfl rfl rfl) (Hop.capN eF rfl rfl rfl rfl rfl rfl rfl) ?_ | refine Ops.val (d := 26) (v := .nilsl) eF rfl rfl (by first | exact Want.no rfl | exact Want.tT rfl rfl rfl rfl | exact Want.fF rfl rfl rfl rfl) (Hop.move rfl rfl) (Ops.change (Chg.tokNew 0 9 1 rfl) (Ops.change (Chg.tokS 1 26 9 1 rfl rfl rfl) ?_)) | refine Ops.val eF rfl rfl (by first | exact Want.no rfl | exact Want.tT rfl rfl rfl rfl | exact Want.fF rfl rfl rfl rfl) (by first | exact Hop.move rfl rfl | exact Hop.assign rfl rfl | exact Hop.lss rfl rfl rfl | exact Hop.gtr rfl rfl rfl | exact Hop.sub rfl rfl rfl (by omega) | exact Hop.lenN eF rfl rfl rfl rfl rfl rfl rfl) ?_ | refine Go.condFt rfl (by first | assumption | decide) ?_ | refine Go.skip ?_ | refine Go.retM rfl rfl ?_ ?_ rfl
    all_goals first | (exfalso; omega) | skip
    · rfl
    · exact ⟨trivial, rfl, trivial⟩
  · repeat' first | refine Go.seq ?_ | refine Go.region rfl ?_ | refine Ops.nil ?_ | refine Ops.val eF rfl rfl (by first | exact Want.no rfl | exact Want.tT rfl rfl rfl rfl | exact Want.fF rfl rfl rfl rfl) (Hop.capN eF rfl rfl rfl rfl rfl rfl rfl) ?_ | refine Ops.val eF rfl rfl (by first | exact Want.no rfl | exact Want.tT rfl rfl rfl rfl | exact Want.fF rfl rfl rfl rfl) (Hop.nilUpto eF rfl rfl rfl rfl rfl rfl) ?_ | refine Ops.change (Chg.tokS 0 20 9 1 rfl rfl rfl) ?_ | refine Ops.appendZ (q := n) (enc := encS) eF [] rfl rfl (by first | exact Want.no rfl | exact Want.tT rfl rfl rfl rfl | exact Want.fF rfl rfl rfl rfl) rfl rfl rfl rfl rfl rfl rfl rfl rfl rfl rfl rfl rfl rfl rfl rfl ⟨.inl rfl, trivial⟩ rfl rfl rfl rfl rfl rfl rfl rfl h0 (by omega) ?_ | refine Ops.uptoO eF 1 rfl rfl (by first | exact Want.no rfl | exact Want.tT rfl rfl rfl rfl | exact Want.fF rfl rfl rfl rfl) rfl rfl rfl rfl rfl rfl rfl rfl rfl ⟨.inl rfl, trivial⟩ rfl rfl rfl (by omega) ?_ | refine Ops.val eF rfl rfl (by first | exact Want.no rfl | exact Want.tT rfl rfl rfl rfl | exact Want.fF rfl rfl rfl rfl) (by first | exact Hop.move rfl rfl | exact Hop.assign rfl rfl | exact Hop.lss rfl rfl rfl | exact Hop.gtr rfl rfl rfl | exact Hop.sub rfl rfl rfl (by omega) | exact Hop.lenN eF rfl rfl rfl rfl rfl rfl rfl) ?_ | refine Go.condPt rfl (fun _ => ?_) (fun _ => ?_) | refine Go.skip ?_ | refine Go.retM rfl rfl ?_ ?_ rfl
    all_goals first | (exfalso; omega) | skip
    · rfl
    · refine ⟨trivial, ?_, trivial⟩
      show AB.arr 9 1 0 (List.take 0 _) = _
      rw [List.take_zero]
end Go.Px.Fh
end
/- FhE -/
section
set_option linter.unusedVariables false
set_option linter.unusedSimpArgs false
set_option maxHeartbeats 4000000
set_option maxRecDepth 20000
namespace Go.Px.Fh
open Go.Proofs Go.Px.Fx
attribute [local irreducible] Go.Px.KOk
def encL (l : List Str) : List AV := [strsA l]
def llA (ll : List (List Str)) : AV := dsl 1 encL ll
def catN (ll : List (List Str)) (i : Nat) : List Str := (ll.take i).flatten
theorem catN_succ {ll : List (List Str)} {i : Nat} (h : i < ll.length) : catN ll (i + 1) = catN ll i ++ ll.getD i default := by
  unfold catN
  rw [take_succ' h, List.flatten_append]; simp
theorem catN_le (ll : List (List Str)) (i : Nat) : (catN ll i).length ≤ ll.flatten.length := by
  have e : ll.flatten = catN ll i ++ (ll.drop i).flatten := by
    unfold catN
    rw [← List.flatten_append, List.take_append_drop]
  rw [e, List.length_append]; omega
theorem catN_add (ll : List (List Str)) (i : Nat) : (catN ll i).length + (ll.getD (i : Int).toNat default).length ≤ ll.flatten.length := by
  rw [Int.toNat_natCast]
  by_cases q : i < ll.length
  · have := catN_le ll (i + 1)
    rw [catN_succ q, List.length_append] at this; exact this
  · rw [List.getD_eq_getElem?_getD, List.getElem?_eq_none (by omega)]
    exact catN_le ll i
theorem catN_all (ll : List (List Str)) : catN ll ll.length = ll.flatten := by unfold catN; rw [List.take_length]
theorem m45 (ll : List (List Str)) (h : ll.flatten.length ≤ 100000) (hl : ll.length ≤ 1000000) : KM cF 45 [] [llA ll] (.own 1 ll.flatten.length 1) [.no, .arr 9 1 ll.flatten.length (ll.flatten.flatMap encS)] := by
  refine KM.of (N := 0) (ab := []) (gv := []) cF_ok eF.g Try.func45 rfl rfl rfl rfl (Nat.le_of_ble_eq_true rfl) rfl rfl rfl rfl rfl rfl fun w F opn gx => ?_
  repeat' first | refine Go.seq ?_ | refine Go.region rfl ?_ | refine Ops.nil ?_ | refine Ops.val eF rfl rfl (by first | exact Want.no rfl | exact Want.tT rfl rfl rfl rfl | exact Want.fF rfl rfl rfl rfl) (by first | exact Hop.move rfl rfl | exact Hop.assign rfl rfl | exact Hop.lenD eF rfl rfl rfl rfl rfl rfl rfl) ?_ | refine Go.block ?_
  refine Go.loop (fun i : Nat => [(0, llA ll), (3, .int .i64 (catN ll i).length), (9, llA ll), (10, .int .i64 ll.length), (11, .int .i64 i)]) (fun _ => hq 0 []) (fun i => i ≤ ll.length) (fun i => ll.length - i) 0 (Nat.zero_le _) ⟨rfl, rfl, rfl, rfl, rfl, trivial⟩ rfl (fun i hi ih => ?_)
  have hci := catN_le ll i
  have hcs := catN_add ll i
  have hsu : i < ll.length → (catN ll i).length + (ll.getD i default).length = (catN ll (i + 1)).length := fun q => by rw [catN_succ q, List.length_append]
  repeat' first | refine Go.seq ?_ | refine Go.region rfl ?_ | refine Ops.nil ?_ | refine Ops.callM (v' := .own 1 0 1) (ab := [.none, .arr 9 1 0 []]) eF [] 0 (by first | exact Want.no rfl | exact Want.tT rfl rfl rfl rfl | exact Want.fF rfl rfl rfl rfl) rfl rfl rfl rfl (m58 (catN ll i).length (by omega)) rfl ⟨.inl rfl, .inl rfl, trivial⟩ rfl trivial trivial rfl rfl rfl rfl rfl rfl rfl ?_ | refine Ops.val eF rfl rfl (by first | exact Want.no rfl | exact Want.tT rfl rfl rfl rfl | exact Want.fF rfl rfl rfl rfl) (by first | exact Hop.move rfl rfl | exact Hop.assign rfl rfl | exact Hop.lss rfl rfl rfl | exact Hop.add rfl rfl rfl (by omega) | exact Hop.idx eF rfl rfl rfl rfl rfl rfl rfl (fun _ => rfl) (by omega) | exact Hop.ldR eF rfl rfl rfl rfl rfl | exact Hop.lenD eF rfl rfl rfl rfl rfl rfl rfl) ?_ | refine Go.condPt rfl (fun _ => ?_) (fun _ => ?_) | refine Go.block ?_ | refine Go.unblk ?_ | refine Go.skip ?_ | refine Go.exit rfl ?_
  all_goals try simp only [Int.toNat_natCast] at *
  all_goals try (exfalso; omega)
  · have g := ih (i + 1) (by show i + 1 ≤ _; omega) (by show ll.length - (i + 1) < _; omega)
    simp only [← hsu (by omega)] at g
    exact Go.toQ g rfl eF.g ⟨rfl, rfl, rfl, rfl, rfl, trivial⟩ rfl rfl trivial trivial rfl rfl
  · refine Go.toHQ (N := 2) (bs := [.none, .arr 9 1 0 []]) (L' := [(0, llA ll), (6, .own 1 0 1), (25, llA ll), (26, .int .i64 ll.length), (27, .int .i64 0)]) ?_ rfl eF.g ⟨rfl, rfl, rfl, rfl, rfl, trivial⟩ rfl rfl ⟨.inl rfl, .inr rfl, trivial⟩ ⟨trivial, trivial, trivial⟩ rfl rfl
    refine Go.loop (fun k : Nat => [(0, llA ll), (6, .own 1 (catN ll k).length 1), (25, llA ll), (26, .int .i64 ll.length), (27, .int .i64 k)]) (fun k => hq 2 [.none, .arr 9 1 (catN ll k).length ((catN ll k).flatMap encS)]) (fun k => k ≤ ll.length) (fun k => ll.length - k) 0 (Nat.zero_le _) ⟨rfl, rfl, rfl, rfl, rfl, trivial⟩ rfl (fun k hk ihk => ?_)
    have hck := catN_le ll k
    have hcs2 := catN_add ll k
    have hsu2 : k < ll.length → (catN ll k).length + (ll.getD k default).length = (catN ll (k + 1)).length := fun q => by rw [catN_succ q, List.length_append]
    have hsu3 : k < ll.length → (catN ll k).flatMap encS ++ (ll.getD k default).flatMap encS = (catN ll (k + 1)).flatMap encS := fun q => by rw [catN_succ q, List.flatMap_append]
    repeat' first | refine Go.seq ?_ | refine Go.region rfl ?_ | refine Ops.nil ?_ | refine Ops.val eF rfl rfl (by first | exact Want.no rfl | exact Want.tT rfl rfl rfl rfl | exact Want.fF rfl rfl rfl rfl) (by first | exact Hop.move rfl rfl | exact Hop.assign rfl rfl | exact Hop.lss rfl rfl rfl | exact Hop.add rfl rfl rfl (by omega) | exact Hop.idx eF rfl rfl rfl rfl rfl rfl rfl (fun _ => rfl) (by omega) | exact Hop.ldR eF rfl rfl rfl rfl rfl) ?_ | refine Ops.appendE eF rfl rfl (by first | exact Want.no rfl | exact Want.tT rfl rfl rfl rfl | exact Want.fF rfl rfl rfl rfl) rfl rfl rfl rfl rfl rfl rfl rfl rfl rfl rfl rfl rfl rfl rfl rfl (by repeat' first | exact trivial | refine And.intro ?_ ?_ | exact .inr trivial | exact .inr (ind_row rfl rfl) | exact .inr rfl | exact .inl rfl | exact .inr (hindL _ _)) rfl rfl rfl rfl rfl (by first | rfl | exact ones_flat (fun _ => rfl) _) (by omega) ?_ | refine Go.condPt rfl (fun _ => ?_) (fun _ => ?_) | refine Go.block ?_ | refine Go.unblk ?_ | refine Go.skip ?_ | refine Go.exit rfl ?_ | refine Go.retM rfl rfl ?_ ?_ rfl
    all_goals try simp only [Int.toNat_natCast] at *
    · have g := ihk (k + 1) (by show k + 1 ≤ _; omega) (by show ll.length - (k + 1) < _; omega)
      simp only [← hsu2 (by omega), ← hsu3 (by omega)] at g
      exact Go.toQ g rfl eF.g ⟨rfl, rfl, rfl, rfl, rfl, trivial⟩ rfl rfl ⟨.inl rfl, .inr rfl, trivial⟩ ⟨trivial, trivial, trivial⟩ rfl rfl
    · have ek : k = ll.length := by omega
      subst ek
      rw [catN_all]; rfl
    · have ek : k = ll.length := by omega
      subst ek
      rw [catN_all]; exact ⟨trivial, rfl, trivial⟩
end Go.Px.Fh
end
/- FhF -/
section
set_option linter.unusedVariables false
set_option linter.unusedSimpArgs false
set_option maxHeartbeats 4000000
set_option maxRecDepth 20000
namespace Go.Px.Fh
open Go.Proofs Go.Px.Fx
attribute [local irreducible] Go.Px.KOk
theorem VarsG_nil : VarsG [] = [] := by simp [VarsG, Lib.compact, Lib.compactUpTo]
theorem k23 (ll : List (List Str)) (h : ll.flatten.length ≤ 100000) (hl : ll.length ≤ 1000000) : KOk cF 23 [llA ll] (strsA (VarsG ll.flatten)) := by
  have mm := m45 ll h hl
  rw [flat_strC] at mm
  refine KOk.of cF_ok eF.g Try.func23 rfl (Nat.le_of_ble_eq_true rfl) fun w F => ?_
  by_cases hz : ll.flatten.length = 0
  · have hz2 : ll.flatten = [] := List.length_eq_zero_iff.1 hz
    have kn1 := k34n
    have kn2 := k35n
    repeat' first | refine Go.seq ?_ | refine Go.region rfl ?_ | refine Ops.nil ?_ | refine Ops.callM (v' := .own 1 _ 1) (ab := [.none, .arr 9 1 _ _]) eF [] 0 (by first | exact Want.no rfl | exact Want.tT rfl rfl rfl rfl | exact Want.fF rfl rfl rfl rfl) rfl rfl rfl rfl mm rfl ⟨.inl rfl, trivial⟩ rfl trivial trivial rfl rfl rfl rfl rfl rfl rfl ?_ | refine Ops.change (Chg.ownEmp 6 (id := 1) rfl rfl hz) ?_ | refine Ops.change (Chg.ownEmp 8 (id := 1) rfl rfl hz) ?_ | refine Ops.val eF rfl rfl (by first | exact Want.no rfl | exact Want.tT rfl rfl rfl rfl | exact Want.fF rfl rfl rfl rfl) (by first | exact Hop.move rfl rfl | exact Hop.assign rfl rfl) ?_ | refine Ops.call eF rfl rfl (by first | exact Want.no rfl | exact Want.tT rfl rfl rfl rfl | exact Want.fF rfl rfl rfl rfl) rfl rfl rfl rfl (kn1) rfl ?_ | refine Ops.call eF rfl rfl (by first | exact Want.no rfl | exact Want.tT rfl rfl rfl rfl | exact Want.fF rfl rfl rfl rfl) rfl rfl rfl rfl (kn2) rfl ?_ | refine Go.retF rfl ?_ rfl
    rw [hz2, VarsG_nil]; rfl
  · repeat' first | refine Go.seq ?_ | refine Go.region rfl ?_ | refine Ops.nil ?_ | refine Ops.callM (v' := .own 1 _ 1) (ab := [.none, .arr 9 1 _ _]) eF [] 0 (by first | exact Want.no rfl | exact Want.tT rfl rfl rfl rfl | exact Want.fF rfl rfl rfl rfl) rfl rfl rfl rfl mm rfl ⟨.inl rfl, trivial⟩ rfl trivial trivial rfl rfl rfl rfl rfl rfl rfl ?_ | refine Ops.sortS (ss := ll.flatten) eF rfl rfl (by first | exact Want.no rfl | exact Want.tT rfl rfl rfl rfl | exact Want.fF rfl rfl rfl rfl) rfl rfl rfl rfl Try.func34 rfl rfl hz (by omega) sort34 ?_ | refine Ops.compactS (ss := ll.flatten.mergeSort sLe) eF rfl rfl (by first | exact Want.no rfl | exact Want.tT rfl rfl rfl rfl | exact Want.fF rfl rfl rfl rfl) rfl rfl rfl rfl rfl Try.func35 rfl rfl hz (by omega) compact35 (fun _ => (by repeat' first | exact trivial | refine And.intro ?_ ?_ | exact .inr trivial | exact .inr (ind_row rfl rfl) | exact .inr rfl | exact .inl rfl)) rfl rfl (by simp) rfl (fun h' hh => ?_) | refine Ops.val eF rfl rfl (by first | exact Want.no rfl | exact Want.tT rfl rfl rfl rfl | exact Want.fF rfl rfl rfl rfl) (by first | exact Hop.move rfl rfl | exact Hop.assign rfl rfl) ?_ | refine Go.retF rfl ?_ rfl
    subst hh
    repeat' first | refine Go.seq ?_ | refine Go.region rfl ?_ | refine Ops.nil ?_ | refine Ops.val eF rfl rfl (by first | exact Want.no rfl | exact Want.tT rfl rfl rfl rfl | exact Want.fF rfl rfl rfl rfl) (by first | exact Hop.move rfl rfl | exact Hop.assign rfl rfl | exact Hop.lss rfl rfl rfl | exact Hop.eql rfl rfl rfl | exact Hop.neq rfl rfl rfl | exact Hop.eqS rfl rfl rfl | exact Hop.neS rfl rfl rfl | exact Hop.add rfl rfl rfl (by omega) | exact Hop.sub rfl rfl rfl (by omega) | exact Hop.conv eF rfl rfl rfl rfl rfl (wr_i64 (by omega)) | exact Hop.conv eF rfl rfl rfl rfl rfl (wr_u64 (by omega)) | exact Hop.idx eF rfl rfl rfl rfl rfl rfl rfl (fun _ => rfl) (by omega) | exact Hop.idxO eF rfl rfl rfl rfl rfl rfl rfl (by omega) | exact Hop.ldR eF rfl rfl rfl rfl rfl | exact Hop.ldRG eF rfl rfl rfl rfl rfl | exact Hop.ldP eF rfl rfl rfl rfl rfl rfl rfl | exact Hop.ldPG eF rfl rfl rfl rfl rfl rfl rfl | exact Hop.ldF eF rfl rfl rfl rfl rfl rfl (fun _ => rfl) rfl rfl (by omega) | exact Hop.lenD eF rfl rfl rfl rfl rfl rfl rfl | exact Hop.lenS eF rfl rfl rfl rfl rfl rfl rfl | exact Hop.lenO eF rfl rfl rfl rfl rfl rfl rfl | exact Hop.lenN eF rfl rfl rfl rfl rfl rfl rfl | exact Hop.from_ eF rfl rfl rfl rfl rfl rfl rfl (fun _ => rfl) (by omega) | exact Hop.upto eF rfl rfl rfl rfl rfl rfl rfl (fun _ => rfl) (by omega)) ?_ | refine Ops.bytes eF rfl rfl (by first | exact Want.no rfl | exact Want.tT rfl rfl rfl rfl | exact Want.fF rfl rfl rfl rfl) rfl rfl rfl rfl rfl rfl rfl rfl ?_ | refine Ops.bytes eF rfl rfl (by first | exact Want.no rfl | exact Want.tT rfl rfl rfl rfl | exact Want.fF rfl rfl rfl rfl) rfl rfl rfl rfl rfl rfl rfl rfl ?_ | refine Ops.unit eF rfl (by first | exact Want.no rfl | exact Want.tT rfl rfl rfl rfl | exact Want.fF rfl rfl rfl rfl) (Hop.store eF rfl rfl rfl rfl rfl rfl) (ArrKeep.put rfl) ?_ | refine Go.condT rfl ?_ | refine Go.condF rfl ?_ | refine Go.condTt rfl (by first | assumption | decide) ?_ | refine Go.condFt rfl (by first | assumption | decide) ?_ | refine Go.condPt rfl (fun _ => ?_) (fun _ => ?_) | refine Go.condNt rfl (fun _ => ?_) (fun _ => ?_) | refine Go.block ?_ | refine Go.unblk ?_ | refine Go.skip ?_ | refine Go.exit rfl ?_ | refine Go.retF rfl ?_ rfl | refine Go.endF rfl ?_ rfl | refine Go.retFm rfl rfl ?_ rfl | refine Go.endFm rfl rfl ?_ rfl | refine Go.retI rfl ?_ | refine Go.retM rfl rfl ?_ ?_ rfl | refine Go.endM rfl rfl ?_ ?_ rfl | refine Go.retY rfl rfl rfl ?_ | refine Go.endY rfl rfl rfl ?_ | refine (Ops.val eF rfl rfl (by first | exact Want.no rfl | exact Want.tT rfl rfl rfl rfl | exact Want.fF rfl rfl rfl rfl) (by exact Hop.ldFG eF rfl rfl rfl rfl rfl rfl rfl (fun _ => rfl) (by omega)) ?_) | refine Go.endI rfl ?_
    simp only [strsA, VarsG, dsl, flat_strC]; rfl
end Go.Px.Fh
end
/- FxO -/
section
set_option linter.unusedVariables false
set_option linter.unusedSimpArgs false
set_option maxHeartbeats 4000000
namespace Go.Px.Fx
open Go.Proofs
attribute [local irreducible] Go.Px.KOk
end Go.Px.Fx
end
/- FxT -/
section
set_option linter.unusedVariables false
set_option linter.unusedSimpArgs false
namespace Go.Px.Fx
open Go.Proofs
theorem s_lt_of {x y : Str} (h : ¬ y < x) (hn : x ≠ y) : x < y := by
  by_cases q : x < y
  · exact q
  · exact absurd (List.le_antisymm (show x ≤ y from h) (show y ≤ x from q)) hn
theorem s_le_lt {x y z : Str} (h1 : ¬ y < x) (h2 : y < z) : x < z := by
  by_cases q : x = y
  · rw [q]; exact h2
  · exact List.lt_trans (s_lt_of h1 q) h2
theorem s_ne {x y : Str} (h : x < y) : x ≠ y := fun e => by subst e; exact List.lt_irrefl _ h
/-- in order, each once -/
abbrev Srt (l : List Str) : Prop := l.Pairwise (· < ·)
theorem srt_eq : ∀ {a b : List Str}, Srt a → Srt b → (∀ x, x ∈ a ↔ x ∈ b) → a = b
  | [], [], _, _, _ => rfl
  | [], y :: b, _, _, h => by have := (h y).2 List.mem_cons_self; cases this
  | x :: a, [], _, _, h => by have := (h x).1 List.mem_cons_self; cases this
  | x :: a, y :: b, ha, hb, h => by
    obtain ⟨a1, a2⟩ := List.pairwise_cons.1 ha
    obtain ⟨b1, b2⟩ := List.pairwise_cons.1 hb
    have hxy : x = y := by
      rcases List.mem_cons.1 ((h x).1 List.mem_cons_self) with q | q
      · exact q
      · rcases List.mem_cons.1 ((h y).2 List.mem_cons_self) with r | r
        · exact r.symm
        · exact absurd (List.lt_trans (b1 x q) (a1 y r)) (List.lt_irrefl _)
    subst hxy
    congr 1
    refine srt_eq a2 b2 fun z => ⟨fun hz => ?_, fun hz => ?_⟩
    · rcases List.mem_cons.1 ((h z).1 (List.mem_cons_of_mem _ hz)) with q | q
      · exact absurd q (Ne.symm (s_ne (a1 z hz)))
      · exact q
    · rcases List.mem_cons.1 ((h z).2 (List.mem_cons_of_mem _ hz)) with q | q
      · exact absurd q (Ne.symm (s_ne (b1 z hz)))
      · exact q
theorem getD_eq {l : List Str} {i : Nat} (h : i < l.length) : l.getD i default = l[i] := by
  rw [List.getD_eq_getElem?_getD, List.getElem?_eq_getElem h]; rfl
/-! ## put in its place -/
theorem place_spec (l : List Str) (x : Str) : ∀ k, k ≤ l.length → (∀ j, placeN l x k ≤ j → j < k → x < l.getD j default) ∧ (0 < placeN l x k → ¬ x < l.getD (placeN l x k - 1) default)
  | 0, _ => ⟨fun j h1 h2 => by omega, fun h => by simp [placeN] at h⟩
  | k + 1, hk => by
    obtain ⟨i1, i2⟩ := place_spec l x k (by omega)
    unfold placeN
    by_cases q : x < l.getD k default
    · rw [bd_of q, cond_true]
      refine ⟨fun j h1 h2 => ?_, i2⟩
      rcases Nat.lt_or_ge j k with r | r
      · exact i1 j h1 r
      · rw [show j = k by omega]; exact q
    · rw [bd_no q, cond_false]
      exact ⟨fun j h1 h2 => by omega, fun _ => by rw [Nat.add_sub_cancel]; exact q⟩
theorem putS_mem (l : List Str) (x y : Str) : y ∈ putS l x ↔ y = x ∨ y ∈ l := by
  unfold putS
  by_cases q : x ∈ l
  · rw [bd_of q, cond_true]
    exact ⟨.inr, fun h => h.elim (fun e => e ▸ q) id⟩
  · rw [bd_no q, cond_false]
    simp only [List.mem_append, List.mem_singleton]
    constructor
    · rintro ((h | h) | h)
      · exact .inr (List.mem_of_mem_take h)
      · exact .inl h
      · exact .inr (List.mem_of_mem_drop h)
    · rintro (h | h)
      · exact .inl (.inr h)
      · rw [← List.take_append_drop (placeN l x l.length) l, List.mem_append] at h
        rcases h with h | h
        · exact .inl (.inl h)
        · exact .inr h
theorem putS_srt {l : List Str} (h : Srt l) (x : Str) : Srt (putS l x) := by
  unfold putS
  by_cases q : x ∈ l
  · rw [bd_of q]; exact h
  · rw [bd_no q, cond_false]
    obtain ⟨p1, p2⟩ := place_spec l x l.length (Nat.le_refl _)
    have hle := placeN_le l x l.length
    generalize placeN l x l.length = p at *
    have hsp := h
    rw [← List.take_append_drop p l] at hsp
    obtain ⟨t1, t2, t3⟩ := List.pairwise_append.1 hsp
    have below : ∀ y ∈ l.take p, y < x := fun y hy => by
      obtain ⟨i, hi, e⟩ := List.getElem_of_mem hy
      rw [List.length_take] at hi
      have hi1 : i < p := by omega
      have hl : i < l.length := by omega
      rw [List.getElem_take] at e
      have hp : p - 1 < l.length := by omega
      have hge := p2 (by omega)
      rw [getD_eq hp] at hge
      have hle' : ¬ l[p - 1] < l[i] := by
        rcases Nat.lt_or_ge i (p - 1) with r | r
        · have := List.pairwise_iff_getElem.1 h i (p - 1) hl hp r
          exact fun h2 => List.lt_irrefl _ (List.lt_trans this h2)
        · have e2 : i = p - 1 := by omega
          subst e2; exact List.lt_irrefl _
      have hne : l[p - 1] ≠ x := fun e2 => q (e2 ▸ List.getElem_mem hp)
      rw [← e]
      exact s_le_lt hle' (s_lt_of hge hne)
    have above : ∀ y ∈ l.drop p, x < y := fun y hy => by
      obtain ⟨i, hi, e⟩ := List.getElem_of_mem hy
      rw [List.length_drop] at hi
      rw [List.getElem_drop] at e
      have := p1 (p + i) (by omega) (by omega)
      rw [getD_eq (by omega), e] at this
      exact this
    refine List.pairwise_append.2 ⟨List.pairwise_append.2 ⟨t1, List.pairwise_singleton _ _, fun a ha b hb => ?_⟩, t2, fun a ha b hb => ?_⟩
    · rw [List.mem_singleton.1 hb]; exact below a ha
    · rcases List.mem_append.1 ha with ha | ha
      · exact t3 a ha b hb
      · rw [List.mem_singleton.1 ha]; exact above b hb
theorem putN_spec (l : List Str) : ∀ n, n ≤ l.length → Srt (putN l n) ∧ ∀ y, y ∈ putN l n ↔ y ∈ l.take n
  | 0, _ => ⟨List.Pairwise.nil, fun y => by simp [putN]⟩
  | n + 1, hn => by
    obtain ⟨i1, i2⟩ := putN_spec l n (by omega)
    refine ⟨putS_srt i1 _, fun y => ?_⟩
    show y ∈ putS (putN l n) (l.getD n default) ↔ _
    rw [putS_mem, i2, take_succ' (show n < l.length by omega), List.mem_append, List.mem_singleton]
    exact Or.comm
/-! ## sorted, what stands twice struck -/
theorem keeps_iff (d : Array Str) (j : Nat) : Lib.keeps d j = true ↔ j = 0 ∨ d[j]! ≠ d[j - 1]! := by
  unfold Lib.keeps; simp
theorem compact_mem (zs : List Str) (y : Str) : y ∈ Lib.compact zs ↔ y ∈ zs := by
  unfold Lib.compact Lib.compactUpTo
  simp only [List.mem_map, List.mem_filter, List.mem_range]
  have hg : ∀ j, j < zs.length → zs.toArray[j]! = zs.getD j default := fun j hj => by
    rw [getD_eq hj]; simp [hj]
  constructor
  · rintro ⟨j, ⟨hj, _⟩, e⟩
    rw [hg j hj, getD_eq hj] at e
    rw [← e]; exact List.getElem_mem hj
  · intro hy
    obtain ⟨i, hi, e⟩ := List.getElem_of_mem hy
    have key : ∀ n, n < zs.length → zs.getD n default = y → ∃ j, (j < zs.length ∧ Lib.keeps zs.toArray j = true) ∧ zs.toArray[j]! = y := by
      intro n
      induction n with
      | zero => exact fun h0 e0 => ⟨0, ⟨h0, by rw [keeps_iff]; exact .inl rfl⟩, by rw [hg 0 h0]; exact e0⟩
      | succ n ih =>
        intro hn en
        by_cases q : zs.getD n default = y
        · exact ih (by omega) q
        · refine ⟨n + 1, ⟨hn, ?_⟩, by rw [hg _ hn]; exact en⟩
          rw [keeps_iff]
          right
          rw [hg _ hn, Nat.add_sub_cancel, hg _ (by omega), en]
          exact fun e2 => q e2.symm
    exact key i hi (by rw [getD_eq hi]; exact e)
theorem compact_srt {zs : List Str} (h : zs.Pairwise (fun a b => ¬ b < a)) : Srt (Lib.compact zs) := by
  unfold Lib.compact Lib.compactUpTo Srt
  rw [List.pairwise_map]
  refine List.Pairwise.imp_of_mem (R := (· < ·)) ?_ (List.Pairwise.filter _ List.pairwise_lt_range)
  intro i j hi hj hij
  simp only [List.mem_filter, List.mem_range] at hi hj
  have hg : ∀ j, j < zs.length → zs.toArray[j]! = zs.getD j default := fun j hj => by
    rw [getD_eq hj]; simp [hj]
  rw [keeps_iff] at hj
  have hk := hj.2.resolve_left (by omega)
  rw [hg j hj.1, hg (j - 1) (by omega), getD_eq hj.1, getD_eq (by omega)] at hk
  rw [hg i hi.1, hg j hj.1, getD_eq hi.1, getD_eq hj.1]
  have h1 : ¬ zs[j] < zs[j - 1] := List.pairwise_iff_getElem.1 h (j - 1) j (by omega) hj.1 (by omega)
  have h2 : zs[j - 1] < zs[j] := s_lt_of h1 (Ne.symm hk)
  rcases Nat.lt_or_ge i (j - 1) with q | q
  · exact s_le_lt (List.pairwise_iff_getElem.1 h i (j - 1) hi.1 (by omega) q) h2
  · have e : i = j - 1 := by omega
    subst e; exact h2
theorem varsG_spec (l : List Str) : Srt (VarsG l) ∧ ∀ y, y ∈ VarsG l ↔ y ∈ l := by
  unfold VarsG
  refine ⟨compact_srt ?_, fun y => by rw [compact_mem, List.mem_mergeSort]⟩
  have := List.pairwise_mergeSort (le := sLe) (fun a b c h1 h2 => by
    unfold sLe at *
    simp only [decide_eq_true_eq] at *
    exact List.le_trans h1 h2) (fun a b => by
    unfold sLe
    simp only [Bool.or_eq_true, decide_eq_true_eq]
    exact List.le_total a b) l
  refine this.imp fun {a b} q => ?_
  unfold sLe at q
  exact of_decide_eq_true q
/-- both ways -/
theorem vars_eq (l : List Str) : VarsG l = putN l l.length := by
  obtain ⟨a1, a2⟩ := varsG_spec l
  obtain ⟨b1, b2⟩ := putN_spec l l.length (Nat.le_refl _)
  refine srt_eq a1 b1 fun y => ?_
  rw [a2, b2, List.take_length]
end Go.Px.Fx
end
/- FhG -/
section
set_option linter.unusedVariables false
set_option linter.unusedSimpArgs false
set_option maxHeartbeats 4000000
namespace Go.Px.Fh
open Go.Proofs Go.Px.Fx
attribute [local irreducible] Go.Px.KOk
noncomputable def r24_0 : List Oper := ((drawn (Try.f24.body.getD .skip))[0]?).getD []
theorem dr24_0 : chkOrd cF r24_0 [0, 1, 2, 3, 4, 5, 6, 7, 8, 9, 10, 11, 12, 13] = true := by kernel_rfl
theorem k24 (l : List Str) (hl : l.length ≤ 100000) : KOk cF 24 [strsA l] (strsA (putN l l.length)) := by
  refine KOk.of cF_ok eF.g Try.func24 rfl (Nat.le_of_ble_eq_true rfl) fun w F => ?_
  repeat' first | refine Go.seq ?_ | refine Go.region rfl ?_ | refine Ops.nil ?_ | refine Ops.val eF rfl rfl (by first | exact Want.no rfl | exact Want.tT rfl rfl rfl rfl | exact Want.fF rfl rfl rfl rfl) (by first | exact Hop.assign rfl rfl) ?_ | refine Go.block ?_
  refine Go.change (Chg.weak 3 rfl (weak_nil 1)) ?_
  refine Go.loop (fun i : Nat => [(0, strsA l), (3, strsA (putN l i)), (4, .int .i64 i)]) (fun _ => hp []) (fun i => i ≤ l.length) (fun i => l.length - i) 0 (by omega) ⟨rfl, rfl, rfl, trivial⟩ rfl (fun i hi ih => ?_)
  have hlen := putN_len l i
  have est : putN l (i + 1) = putS (putN l i) (l.getD i default) := rfl
  have k1 := k31 (l.getD (i : Int).toNat default) (putN l i) (by omega)
  repeat' first | refine Go.seq ?_ | refine Go.region rfl ?_ | refine Ops.nil ?_ | refine Ops.val eF rfl rfl (by first | exact Want.no rfl | exact Want.tT rfl rfl rfl rfl | exact Want.fF rfl rfl rfl rfl) (by first | exact Hop.move rfl rfl | exact Hop.assign rfl rfl | exact Hop.lss rfl rfl rfl | exact Hop.add rfl rfl rfl (by omega) | exact Hop.idx eF rfl rfl rfl rfl rfl rfl rfl (fun _ => rfl) (by omega) | exact Hop.ldR eF rfl rfl rfl rfl rfl | exact Hop.lenD eF rfl rfl rfl rfl rfl rfl rfl) ?_ | refine Ops.call eF rfl rfl (by first | exact Want.no rfl | exact Want.tT rfl rfl rfl rfl | exact Want.fF rfl rfl rfl rfl) rfl rfl rfl rfl (k1) rfl ?_ | refine Go.condPt rfl (fun _ => ?_) (fun _ => ?_) | refine Go.block ?_ | refine Go.skip ?_ | refine Go.exit rfl ?_ | refine Go.retF rfl ?_ rfl
  all_goals try simp only [Int.toNat_natCast] at *
  case refine_2 =>
    have e : i = l.length := by omega
    subst e; rfl
  · rename_i q
    refine Go.to (ih (i + 1) (by omega) (by omega)) ⟨rfl, ?_, rfl, trivial⟩
    rw [est]
    unfold putS
    rw [bd_of q]; rfl
  · rename_i q
    refine Go.loop (fun k : Nat => [(0, strsA l), (3, strsA (putN l i)), (4, .int .i64 i), (6, .int .i64 k)]) (fun _ => hp []) (fun k => k ≤ (putN l i).length ∧ placeN (putN l i) (l.getD i default) k = placeN (putN l i) (l.getD i default) (putN l i).length) (fun k => k) (putN l i).length ⟨Nat.le_refl _, rfl⟩ ⟨rfl, rfl, rfl, rfl, trivial⟩ rfl (fun k hP ihk => ?_)
    obtain ⟨hk, hn⟩ := hP
    have hT : ((putN l i).take (k : Int).toNat).length = k := by rw [Int.toNat_natCast, List.length_take]; omega
    have hD : ((putN l i).drop (k : Int).toNat).length = (putN l i).length - k := by rw [Int.toNat_natCast, List.length_drop]
    repeat' first | refine Go.seq ?_
    refine Go.draw eF hm [] [0, 1, 2, 3, 4, 5, 6, 7, 8, 9, 10, 11, 12, 13] dr24_0 ?_
    repeat' first | refine Dr.nil ?_ | refine Dr.pure rfl rfl rfl rfl (by first | exact Want.no rfl | exact Want.tT rfl rfl rfl rfl | exact Want.fF rfl rfl rfl rfl) (by first | exact Hop.move rfl rfl | exact Hop.pickT rfl rfl rfl | exact Hop.pickF rfl rfl rfl | exact Hop.gtr rfl rfl rfl | exact Hop.sub rfl rfl rfl (by omega) | exact Hop.idx eF rfl rfl rfl rfl rfl rfl rfl (fun _ => rfl) (by omega) | exact Hop.ldR eF rfl rfl rfl rfl rfl | exact Hop.gtS rfl rfl rfl) ?_ | refine Dr.light rfl rfl rfl rfl (by first | exact Want.no rfl | exact Want.tT rfl rfl rfl rfl | exact Want.fF rfl rfl rfl rfl) (by first | exact Hop.ldR eF rfl rfl rfl rfl rfl) ?_ | refine Dr.skip rfl rfl rfl (by first | exact Want.fT rfl rfl rfl rfl | exact Want.tF rfl rfl rfl rfl | exact Want.und rfl rfl rfl rfl) ?_ | refine Dr.gP rfl rfl (fun _ => ?_) (fun _ => ?_)
    repeat' first | refine Go.seq ?_ | refine Go.region rfl ?_ | refine Ops.nil ?_ | refine Ops.val eF rfl rfl (by first | exact Want.no rfl | exact Want.tT rfl rfl rfl rfl | exact Want.fF rfl rfl rfl rfl) (by first | exact Hop.move rfl rfl | exact Hop.assign rfl rfl | exact Hop.add rfl rfl rfl (by omega) | exact Hop.sub rfl rfl rfl (by omega) | exact Hop.idx eF rfl rfl rfl rfl rfl rfl rfl (fun _ => rfl) (by omega) | exact Hop.ldR eF rfl rfl rfl rfl rfl | exact Hop.from_ eF rfl rfl rfl rfl rfl rfl rfl (fun _ => rfl) (by omega) | exact Hop.upto eF rfl rfl rfl rfl rfl rfl rfl (fun _ => rfl) (by omega)) ?_ | refine Ops.data eF rfl rfl (by first | exact Want.no rfl | exact Want.tT rfl rfl rfl rfl | exact Want.fF rfl rfl rfl rfl) rfl (Hop.bslice eF rfl rfl rfl rfl rfl rfl rfl rfl rfl rfl rfl) rfl rfl ?_ | refine Ops.appendE eF rfl rfl (by first | exact Want.no rfl | exact Want.tT rfl rfl rfl rfl | exact Want.fF rfl rfl rfl rfl) rfl rfl rfl rfl rfl rfl rfl rfl rfl rfl rfl rfl rfl rfl rfl rfl (by repeat' first | exact trivial | refine And.intro ?_ ?_ | exact .inr trivial | exact .inr (ind_row rfl rfl) | exact .inr rfl | exact .inl rfl | exact .inr (hindL _ _)) rfl rfl rfl rfl rfl (by first | rfl | exact ones_flat (fun _ => rfl) _) (by omega) ?_ | refine Ops.appendNAt eF 0 rfl rfl rfl (fun _ => by first | exact Want.no rfl | exact Want.tT rfl rfl rfl rfl | exact Want.fF rfl rfl rfl rfl) rfl rfl rfl rfl rfl rfl (fun _ => rfl) rfl rfl rfl rfl rfl rfl rfl rfl (by repeat' first | exact trivial | refine And.intro ?_ ?_ | exact .inr trivial | exact .inr (ind_row rfl rfl) | exact .inr rfl | exact .inl rfl | exact .inr (hindL _ _)) rfl rfl rfl rfl rfl (by first | rfl | exact ones_flat (fun _ => rfl) _) (by omega) ?_ | refine Go.condF rfl ?_ | refine Go.condPt rfl (fun _ => ?_) (fun _ => ?_) | refine Go.block ?_ | refine Go.unblk ?_ | refine Go.skip ?_ | refine Go.exit rfl ?_
    all_goals try simp only [Int.toNat_natCast] at *
    all_goals first
      | (rename_i h0 h1
         have hk1 : ∃ j, k = j + 1 := ⟨k - 1, by omega⟩
         obtain ⟨j, rfl⟩ := hk1
         have ej : (((j + 1 : Nat) : Int) - 1).toNat = j := by omega
         rw [ej] at h1
         refine Go.to (ihk j ⟨by omega, ?_⟩ (by omega)) ⟨rfl, rfl, rfl, ?_, trivial⟩
         · rw [← hn]
           show _ = cond (bd (l.getD i default < (putN l i).getD j default)) _ _
           rw [bd_of h1]; rfl
         · show some (AV.int .i64 _) = some (AV.int .i64 _)
           congr 2; omega)
      | (have hpl : placeN (putN l i) (l.getD i default) k = k := by
           cases k with
           | zero => rfl
           | succ j =>
             first
             | (exfalso; omega)
             | (have ej : (((j + 1 : Nat) : Int) - 1).toNat = j := by omega
                rename_i h0 h1
                rw [ej] at h1
                show cond (bd (l.getD i default < (putN l i).getD j default)) _ _ = _
                rw [bd_no h1]; rfl)
         refine Go.changeL (Chg.frz 3 rfl rfl (by repeat' first | exact trivial | refine And.intro ?_ ?_ | exact .inr trivial | exact .inr rfl | exact .inl rfl) rfl rfl (fun q => by cases q)) ?_
         refine Go.toC (bs := []) (ih (i + 1) (by omega) (by omega)) eF.g ⟨rfl, ?_, rfl, trivial⟩ rfl rfl trivial trivial rfl rfl
         refine (congrArg some (dsl3 (k := k) (x := l.getD i default) (o := putN l i) (((putN l i).take k).length) (((putN l i).drop k).length) rfl rfl)).trans ?_
         rw [est]
         unfold putS
         rw [bd_no q, cond_false, ← hn, hpl])
end Go.Px.Fh
end
/- FhH -/
section
set_option linter.unusedVariables false
set_option linter.unusedSimpArgs false
set_option maxHeartbeats 4000000
set_option maxRecDepth 20000
namespace Go.Px.Fh
open Go.Proofs Go.Px.Fx
attribute [local irreducible] Go.Px.KOk
theorem m15 (l : List Cl) (hb : cntL l ≤ 10000) (hok : okL l) : KM cF 15 [] [clsA l] (.own 3 (VarsG (varsL l)).length 1) [.no, .no, .no, .arr 9 1 (VarsG (varsL l)).length ((VarsG (varsL l)).flatMap encS)] := by
  have h1 := varsL_len l
  have h0 := k32 l
  refine KM.of (N := 0) (ab := []) (gv := []) cF_ok eF.g Try.func15 rfl rfl rfl rfl (Nat.le_of_ble_eq_true rfl) rfl rfl rfl rfl rfl rfl fun w F opn gx => ?_
  repeat' first | refine Go.seq ?_ | refine Go.region rfl ?_ | refine Ops.nil ?_ | refine Ops.val eF rfl rfl (by first | exact Want.no rfl | exact Want.tT rfl rfl rfl rfl | exact Want.fF rfl rfl rfl rfl) (by first | exact Hop.move rfl rfl | exact Hop.assign rfl rfl) ?_ | refine Ops.call eF rfl rfl (by first | exact Want.no rfl | exact Want.tT rfl rfl rfl rfl | exact Want.fF rfl rfl rfl rfl) rfl rfl rfl rfl (h0) rfl ?_ | refine Ops.rowAt eF 0 rfl rfl (by first | exact Want.no rfl | exact Want.tT rfl rfl rfl rfl | exact Want.fF rfl rfl rfl rfl) rfl (Hop.alloc eF rfl rfl rfl) ?_ | refine Go.block ?_
  refine Go.change (Chg.tokCell 1 0 9 1 rfl rfl rfl) ?_
  refine Go.to (M := [(3, .ptr 0 0), (8, .fn (.func 48) [] [.rptr [clsA l]])]) ?_ ⟨rfl, rfl, trivial⟩
  refine Go.rangeK eF 2 rfl rfl rfl (it48 (cntL l + 1) l (by omega) (by omega)) rfl (fun j => hq 3 [.row ⟨25, 1, .leaf, [.own 1 (preV l j).length 1], none⟩, .arr 9 1 (preV l j).length ((preV l j).flatMap encS), .dfr true])
    (fun b => ChgE.cut _ rfl eF.g rfl ⟨.inr rfl, .inr rfl, .inr rfl, trivial⟩ ⟨low_row rfl rfl, trivial, trivial, trivial⟩) (fun j v hv => by rw [(item_at hv).2]; rfl) rfl (fun j v hv b2 => ?_) ?_
  · obtain ⟨hj, rfl⟩ := item_at hv
    have hc := preL_ok l hok _ (getD_mem hj)
    have hn := preL_cnt l _ (getD_mem hj)
    have hs := preV_succ hj
    have hp := preV_len l j
    have hp2 := preV_len l (j + 1)
    rw [Cl.ok_eq] at hc
    generalize (preL l).getD j default = c at *
    repeat' first | refine Go.region rfl ?_ | refine Ops.nil ?_ | refine Ops.rowAt eF 3 rfl rfl (by first | exact Want.no rfl | exact Want.tT rfl rfl rfl rfl | exact Want.fF rfl rfl rfl rfl) rfl (Hop.alloc eF rfl rfl rfl) ?_ | refine Ops.unit eF rfl (by first | exact Want.no rfl | exact Want.tT rfl rfl rfl rfl | exact Want.fF rfl rfl rfl rfl) (Hop.store eF rfl rfl rfl rfl rfl rfl) (ArrKeep.put rfl) ?_
    refine Go.bodyK (fun b3 => ?_)
    repeat' first | refine Go.seq ?_ | refine Go.region rfl ?_ | refine Ops.nil ?_ | refine Ops.val eF rfl rfl (by first | exact Want.no rfl | exact Want.tT rfl rfl rfl rfl | exact Want.fF rfl rfl rfl rfl) (by first | exact Hop.move rfl rfl | exact Hop.faP eF rfl rfl rfl rfl rfl rfl rfl | exact Hop.ldP eF rfl rfl rfl rfl rfl rfl rfl | exact Hop.lenD eF rfl rfl rfl rfl rfl rfl rfl) ?_ | refine Go.block ?_
    refine Go.toHQ (N := 4) (bs := [.row ⟨25, 1, .leaf, [.own 1 (preV l j).length 1], none⟩, .arr 9 1 (preV l j).length ((preV l j).flatMap encS), .dfr true, .row ⟨41, 5, .leaf, encF c, none⟩]) (L' := [(3, .ptr 0 0), (4, .ptr 3 0), (11, argsA c.a), (12, .int .i64 c.a.length), (13, .int .i64 0)]) ?_ rfl eF.g ⟨rfl, rfl, rfl, rfl, rfl, trivial⟩ rfl rfl ⟨.inr rfl, .inr rfl, .inr rfl, .inr rfl, trivial⟩ ⟨low_row rfl rfl, trivial, trivial, low_row rfl rfl, trivial⟩ rfl rfl
    refine Go.loop (fun i : Nat => [(3, .ptr 0 0), (4, .ptr 3 0), (11, argsA c.a), (12, .int .i64 c.a.length), (13, .int .i64 i)]) (fun i => hq 4 [.row ⟨25, 1, .leaf, [.own 1 ((preV l j).length + (argV (c.a.take i)).length) 1], none⟩, .arr 9 1 ((preV l j).length + (argV (c.a.take i)).length) ((preV l j).flatMap encS ++ (argV (c.a.take i)).flatMap encS), .dfr true, .row ⟨41, 5, .leaf, encF c, none⟩]) (fun i => i ≤ c.a.length) (fun i => c.a.length - i) 0 (by omega) ⟨rfl, rfl, rfl, rfl, rfl, trivial⟩ (by simp [argV]) (fun i hi ih => ?_)
    have hav : (argV (c.a.take i)).length ≤ i := Nat.le_trans (argV_len _) (by rw [List.length_take]; omega)
    have k1 := k33 (c.a.getD i default).x (hc.2.1 i)
    have k2 := k33 c.o hc.2.2.1
    repeat' first | refine Go.seq ?_ | refine Go.region rfl ?_ | refine Ops.nil ?_ | refine Ops.val eF rfl rfl (by first | exact Want.no rfl | exact Want.tT rfl rfl rfl rfl | exact Want.fF rfl rfl rfl rfl) (by first | exact Hop.move rfl rfl | exact Hop.lss rfl rfl rfl | exact Hop.add rfl rfl rfl (by omega) | exact Hop.faP eF rfl rfl rfl rfl rfl rfl rfl | exact Hop.idx eF rfl rfl rfl rfl rfl rfl rfl (fun _ => rfl) (by omega) | exact Hop.ldRG eF rfl rfl rfl rfl rfl | exact Hop.ldP eF rfl rfl rfl rfl rfl rfl rfl) ?_ | refine Ops.call eF rfl rfl (by first | exact Want.no rfl | exact Want.tT rfl rfl rfl rfl | exact Want.fF rfl rfl rfl rfl) rfl rfl rfl rfl (k1) rfl ?_ | refine Ops.call eF rfl rfl (by first | exact Want.no rfl | exact Want.tT rfl rfl rfl rfl | exact Want.fF rfl rfl rfl rfl) rfl rfl rfl rfl (k2) rfl ?_ | refine Ops.data eF rfl rfl (by first | exact Want.no rfl | exact Want.tT rfl rfl rfl rfl | exact Want.fF rfl rfl rfl rfl) rfl (Hop.bslice eF rfl rfl rfl rfl rfl rfl rfl rfl rfl rfl rfl) rfl rfl ?_ | refine Ops.appendE eF rfl rfl (by first | exact Want.no rfl | exact Want.tT rfl rfl rfl rfl | exact Want.fF rfl rfl rfl rfl) rfl rfl rfl rfl rfl rfl rfl rfl rfl rfl rfl rfl rfl rfl rfl rfl (by repeat' first | exact trivial | refine And.intro ?_ ?_ | exact .inr trivial | exact .inr (ind_row rfl rfl) | exact .inr rfl | exact .inl rfl | exact .inr (hindL _ _)) rfl rfl rfl rfl rfl (by first | rfl | exact ones_flat (fun _ => rfl) _) (by omega) ?_ | refine Ops.rowAt eF 4 rfl rfl (by first | exact Want.no rfl | exact Want.tT rfl rfl rfl rfl | exact Want.fF rfl rfl rfl rfl) rfl (Hop.alloc eF rfl rfl rfl) ?_ | refine Ops.unit eF rfl (by first | exact Want.no rfl | exact Want.tT rfl rfl rfl rfl | exact Want.fF rfl rfl rfl rfl) (Hop.store eF rfl rfl rfl rfl rfl rfl) (ArrKeep.put rfl) ?_ | refine Go.condPt rfl (fun _ => ?_) (fun _ => ?_) | refine Go.block ?_ | refine Go.unblk ?_ | refine Go.skip ?_ | refine Go.exit rfl ?_
    all_goals try simp only [Int.toNat_natCast] at *
    · rename_i q1 q2
      have g := ih (i + 1) (by omega) (by omega)
      simp only [argV_succ (show i < c.a.length by omega), isV, bd_of q2, cond_true, List.length_append, List.length_cons, List.length_nil, Nat.zero_add, List.flatMap_append, List.flatMap_cons, List.flatMap_nil, List.append_nil, ← Nat.add_assoc, ← List.append_assoc] at g
      exact Go.toQ g rfl eF.g ⟨rfl, rfl, rfl, rfl, rfl, trivial⟩ rfl rfl ⟨.inr rfl, .inr rfl, .inr rfl, .inr rfl, trivial⟩ ⟨low_row rfl rfl, trivial, trivial, low_row rfl rfl, trivial⟩ rfl rfl
    · rename_i q1 q2
      have g := ih (i + 1) (by omega) (by omega)
      simp only [argV_succ (show i < c.a.length by omega), isV, bd_no q2, cond_false, List.append_nil] at g
      exact Go.toQ g rfl eF.g ⟨rfl, rfl, rfl, rfl, rfl, trivial⟩ rfl rfl ⟨.inr rfl, .inr rfl, .inr rfl, .inr rfl, trivial⟩ ⟨low_row rfl rfl, trivial, trivial, low_row rfl rfl, trivial⟩ rfl rfl
    · rename_i q1 q2
      have ei : c.a.take i = c.a := by rw [show i = c.a.length by omega, List.take_length]
      have e1 : (preV l (j + 1)).length = (preV l j).length + (argV (c.a.take i)).length + 1 := by simp [hs, ownV, isV, bd_of q2, ei]; omega
      have e2 : (preV l (j + 1)).flatMap encS = (preV l j).flatMap encS ++ (argV (c.a.take i)).flatMap encS ++ Fx.encS c.o := by simp [hs, ownV, isV, bd_of q2, ei]
      refine Go.nextK ?_
      rw [e1, e2]
      exact ChgE.cut _ rfl eF.g rfl ⟨.inr rfl, .inr rfl, .inr rfl, trivial⟩ ⟨low_row rfl rfl, trivial, trivial, trivial⟩
    · rename_i q1 q2
      have ei : c.a.take i = c.a := by rw [show i = c.a.length by omega, List.take_length]
      have e1 : (preV l (j + 1)).length = (preV l j).length + (argV (c.a.take i)).length := by simp [hs, ownV, isV, bd_no q2, ei]
      have e2 : (preV l (j + 1)).flatMap encS = (preV l j).flatMap encS ++ (argV (c.a.take i)).flatMap encS := by simp [hs, ownV, isV, bd_no q2, ei]
      refine Go.nextK ?_
      rw [e1, e2]
      exact ChgE.cut _ rfl eF.g rfl ⟨.inr rfl, .inr rfl, .inr rfl, trivial⟩ ⟨low_row rfl rfl, trivial, trivial, trivial⟩
  · rw [List.length_map, preV_all, flat_strC]
    have hcc := KM.compactO cF_ok eF.g Try.func35 rfl compact35 (fun a C w => Try.slices_Compact_string_empty a C w) (n := (varsL l).length) (t := 9) (ss := (varsL l).mergeSort sLe) (by omega)
    by_cases hz : (varsL l).length = 0
    · have hz2 : varsL l = [] := List.length_eq_zero_iff.1 hz
      have kn1 := k34n
      rw [hz2, List.mergeSort_nil] at hcc
      rw [hz2]
      repeat' first | refine Go.seq ?_ | refine Go.region rfl ?_ | refine Ops.nil ?_ | refine Ops.change (Chg.ownEmp 34 (id := 1) rfl rfl rfl) ?_ | refine Ops.val eF rfl rfl (by first | exact Want.no rfl | exact Want.tT rfl rfl rfl rfl | exact Want.fF rfl rfl rfl rfl) (by first | exact Hop.ldP eF rfl rfl rfl rfl rfl rfl rfl) ?_ | refine Ops.call eF rfl rfl (by first | exact Want.no rfl | exact Want.tT rfl rfl rfl rfl | exact Want.fF rfl rfl rfl rfl) rfl rfl rfl rfl (kn1) rfl ?_ | refine Go.unblk ?_
      refine Ops.change (Chg.cellBad 0 rfl) ?_
      refine Ops.callM (v' := .own 3 _ 1) (ab := [.none, .arr 9 1 _ _]) eF [1] 3 (Want.no rfl) rfl rfl rfl rfl hcc rfl ⟨.inl rfl, trivial⟩ rfl (by repeat' first | exact trivial | exact rfl | refine And.intro ?_ ?_) (by repeat' first | exact trivial | exact .inl rfl | exact .inr trivial | exact .inr rfl | refine And.intro ?_ ?_) rfl rfl rfl rfl rfl rfl rfl ?_
      repeat' first | refine Ops.nil ?_ | refine Ops.val eF rfl rfl (by first | exact Want.no rfl | exact Want.tT rfl rfl rfl rfl | exact Want.fF rfl rfl rfl rfl) (by first | exact Hop.assign rfl rfl) ?_ | refine Go.retM rfl rfl ?_ ?_ rfl
      · rw [show VarsG [] = Lib.compact [] by unfold VarsG; rw [List.mergeSort_nil]]; rfl
      · rw [show VarsG [] = Lib.compact [] by unfold VarsG; rw [List.mergeSort_nil], flat_strC]
        exact ⟨trivial, trivial, trivial, rfl, trivial⟩
    · repeat' first | refine Go.seq ?_ | refine Go.region rfl ?_ | refine Ops.nil ?_ | refine Ops.sortS (ss := varsL l) eF rfl rfl (by first | exact Want.no rfl | exact Want.tT rfl rfl rfl rfl | exact Want.fF rfl rfl rfl rfl) rfl rfl rfl rfl Try.func34 rfl rfl hz (by omega) sort34 ?_ | refine Ops.val eF rfl rfl (by first | exact Want.no rfl | exact Want.tT rfl rfl rfl rfl | exact Want.fF rfl rfl rfl rfl) (by first | exact Hop.ldP eF rfl rfl rfl rfl rfl rfl rfl) ?_ | refine Go.unblk ?_
      refine Ops.change (Chg.cellBad 0 rfl) ?_
      refine Ops.callM (v' := .own 3 _ 1) (ab := [.none, .arr 9 1 _ _]) eF [1] 3 (Want.no rfl) rfl rfl rfl rfl hcc rfl ⟨.inl rfl, trivial⟩ rfl (by repeat' first | exact trivial | exact rfl | refine And.intro ?_ ?_) (by repeat' first | exact trivial | exact .inl rfl | exact .inr trivial | exact .inr rfl | refine And.intro ?_ ?_) rfl rfl rfl rfl rfl rfl rfl ?_
      repeat' first | refine Ops.nil ?_ | refine Ops.val eF rfl rfl (by first | exact Want.no rfl | exact Want.tT rfl rfl rfl rfl | exact Want.fF rfl rfl rfl rfl) (by first | exact Hop.assign rfl rfl) ?_ | refine Go.retM rfl rfl ?_ ?_ rfl
      · rfl
      · rw [flat_strC]
        exact ⟨trivial, trivial, trivial, rfl, trivial⟩
end Go.Px.Fh
end
/- FhI -/
section
set_option linter.unusedVariables false
set_option linter.unusedSimpArgs false
set_option maxHeartbeats 4000000
set_option maxRecDepth 20000
namespace Go.Px.Fh
open Go.Proofs Go.Px.Fx
attribute [local irreducible] Go.Px.KOk
theorem cls1 (c : Cl) : clsA [c] = .rsl 1 5 (encF c ++ []) := by rw [clsA_eq]; rfl
theorem cnt1 (c : Cl) : cntL [c] = c.cnt := by simp [cntL]
theorem vars1 (c : Cl) : varsL [c] = c.vars := by simp [varsL]
theorem k30 (c : Cl) (hb : c.cnt ≤ 10000) (hok : c.ok) : KOk cF 30 [.agg (encF c)] (strsA (putN c.vars c.vars.length)) := by
  have k1 := k18 [c] (by rw [cnt1]; exact hb) ⟨hok, trivial⟩
  unfold VarsP at k1
  rw [vars1, cls1] at k1
  refine KOk.of cF_ok eF.g Try.func30 rfl (Nat.le_of_ble_eq_true rfl) fun w F => ?_
  repeat' first | refine Go.seq ?_ | refine Go.region rfl ?_ | refine Ops.nil ?_ | refine Ops.val eF rfl rfl (by first | exact Want.no rfl | exact Want.tT rfl rfl rfl rfl | exact Want.fF rfl rfl rfl rfl) (by first | exact Hop.assign rfl rfl | exact Hop.ldRG eF rfl rfl rfl rfl rfl) ?_ | refine Ops.call eF rfl rfl (by first | exact Want.no rfl | exact Want.tT rfl rfl rfl rfl | exact Want.fF rfl rfl rfl rfl) rfl rfl rfl rfl (k1) rfl ?_ | refine Ops.data eF rfl rfl (by first | exact Want.no rfl | exact Want.tT rfl rfl rfl rfl | exact Want.fF rfl rfl rfl rfl) rfl (Hop.bslice eF rfl rfl rfl rfl rfl rfl rfl rfl rfl rfl rfl) rfl rfl ?_ | refine Ops.boxR eF rfl rfl (by first | exact Want.no rfl | exact Want.tT rfl rfl rfl rfl | exact Want.fF rfl rfl rfl rfl) rfl rfl rfl rfl ?_ | refine Go.retF rfl ?_ rfl
  all_goals rfl
theorem m26 (c : Cl) (hb : c.cnt ≤ 10000) (hok : c.ok) : KM cF 26 [] [.agg (encF c)] (.own 3 (VarsG c.vars).length 1) [.no, .no, .no, .arr 9 1 (VarsG c.vars).length ((VarsG c.vars).flatMap encS)] := by
  have m1 := m15 [c] (by rw [cnt1]; exact hb) ⟨hok, trivial⟩
  rw [vars1, cls1] at m1
  refine KM.of (N := 0) (ab := []) (gv := []) cF_ok eF.g Try.func26 rfl rfl rfl rfl (Nat.le_of_ble_eq_true rfl) rfl rfl rfl rfl rfl rfl fun w F opn gx => ?_
  repeat' first | refine Go.seq ?_ | refine Go.region rfl ?_ | refine Ops.nil ?_ | refine Ops.callM (v' := .own 3 _ 1) (ab := [.none, .none, .none, .arr 9 1 _ _]) eF [] 0 (by first | exact Want.no rfl | exact Want.tT rfl rfl rfl rfl | exact Want.fF rfl rfl rfl rfl) rfl rfl rfl rfl m1 rfl ⟨.inl rfl, trivial⟩ rfl trivial trivial rfl rfl rfl rfl rfl rfl rfl ?_ | refine Ops.val eF rfl rfl (by first | exact Want.no rfl | exact Want.tT rfl rfl rfl rfl | exact Want.fF rfl rfl rfl rfl) (by first | exact Hop.assign rfl rfl | exact Hop.ldRG eF rfl rfl rfl rfl rfl) ?_ | refine Ops.data eF rfl rfl (by first | exact Want.no rfl | exact Want.tT rfl rfl rfl rfl | exact Want.fF rfl rfl rfl rfl) rfl (Hop.bslice eF rfl rfl rfl rfl rfl rfl rfl rfl rfl rfl rfl) rfl rfl ?_ | refine Ops.boxR eF rfl rfl (by first | exact Want.no rfl | exact Want.tT rfl rfl rfl rfl | exact Want.fF rfl rfl rfl rfl) rfl rfl rfl rfl ?_ | refine Go.retM rfl rfl ?_ ?_ rfl
  · rfl
  · exact ⟨trivial, trivial, trivial, rfl, trivial⟩
theorem k26 (c : Cl) (hb : c.cnt ≤ 10000) (hok : c.ok) : KOk cF 26 [.agg (encF c)] (strsA (VarsG c.vars)) := by
  have m1 := k15 [c] (by rw [cnt1]; exact hb) ⟨hok, trivial⟩
  rw [vars1, cls1] at m1
  refine KOk.of cF_ok eF.g Try.func26 rfl (Nat.le_of_ble_eq_true rfl) fun w F => ?_
  repeat' first | refine Go.seq ?_ | refine Go.region rfl ?_ | refine Ops.nil ?_ | refine Ops.val eF rfl rfl (by first | exact Want.no rfl | exact Want.tT rfl rfl rfl rfl | exact Want.fF rfl rfl rfl rfl) (by first | exact Hop.assign rfl rfl | exact Hop.ldRG eF rfl rfl rfl rfl rfl) ?_ | refine Ops.call eF rfl rfl (by first | exact Want.no rfl | exact Want.tT rfl rfl rfl rfl | exact Want.fF rfl rfl rfl rfl) rfl rfl rfl rfl (m1) rfl ?_ | refine Ops.data eF rfl rfl (by first | exact Want.no rfl | exact Want.tT rfl rfl rfl rfl | exact Want.fF rfl rfl rfl rfl) rfl (Hop.bslice eF rfl rfl rfl rfl rfl rfl rfl rfl rfl rfl rfl) rfl rfl ?_ | refine Ops.boxR eF rfl rfl (by first | exact Want.no rfl | exact Want.tT rfl rfl rfl rfl | exact Want.fF rfl rfl rfl rfl) rfl rfl rfl rfl ?_ | refine Go.retF rfl ?_ rfl
  all_goals rfl
end Go.Px.Fh
end
/- PxVj -/
section
set_option linter.unusedVariables false
set_option linter.unusedSimpArgs false
namespace Go.Px
noncomputable def chkOrdP (c : Ctx) (ops : List Oper) (p : Nat) (ord : List Nat) : Bool :=
  match stepsOf c ops (masks ops []) ord with
  | some L => (planOk ops (masks ops []) (writers ops .leaf 0) (Nat.pred (bit1 p)) L 0 && preOk (masks ops []) p) && (sufOk ((masks ops []).drop p) p && Nat.ble p ops.length)
  | none => false
section
variable {X : Cx} {sz : Nat} {rd : Option Nat} {all : Array Oper} {k : List It} {L : List (Nat × AV)} {h : Heap} {m : List Nat} {Q : Post}
/-- SUCH A REGION whose last operations, from the p-th on, come one by one; the first ones in the order 'ord'. -/
theorem Go.drawP {tb0 : List (Nat × TE)} (E : Env X.c tb0) (hm : X.c.P.follows .mixedOrders = true) (tb : List (Ent X.c)) (p : Nat) (ord : List Nat) {id : Nat} (hc : chkOrdP X.c all.toList p ord = true) (n : Dr X sz rd tb all ord [] L h (some h) m (SufQ X sz rd all p k Q)) : Go X sz rd (.code (.region id all true) :: k) L h m Q := ⟨fun e he => by
  unfold chkOrdP at hc
  split at hc
  · rename_i S hS
    simp only [Bool.and_eq_true] at hc
    obtain ⟨⟨hc1, hc2⟩, hc3, hc4⟩ := hc
    have hpn : p ≤ all.size := by simpa using bleT hc4
    intro ro ρ w a Q' h1 h2 h3 h4 h5
    obtain ⟨e', h', q1, q2, q3⟩ := n.run e he S hS [(h, all.toList.length)] (by simp) (fun g hg x hx => by cases hx; simp at hg; rw [hg])
    obtain ⟨_, q3⟩ : SufQ X sz rd all p k Q .normal ⟨e', h', m⟩ := q3
    refine draw_sound3 E.k hm (papp_ok tb) hS hpn hc1 hc2 hc3 q1 h2.hr h2.wf h2.fr h3 fun a' w' ρ' g er dd => ?_
    refine q3 (List.range' p (all.size - p)) ?_ ro ρ' w' a' Q' (h1.mono g.sub) (h2.good g q2) er (by rw [dd]; exact h4.mono g.sub) (fun s' a2 w2 ρ2 z1 z2 z3 z4 z5 => h5 .normal s' a2 w2 ρ2 z1 z2 z3 z4 z5)
    apply List.ext_getElem?
    intro i
    simp only [List.getElem?_map, List.getElem?_drop]
    by_cases hi : i < all.size - p
    · rw [List.getElem?_range' hi]
      simp [Array.getElem?_eq_getElem (show p + i < all.size by omega)]
    · rw [List.getElem?_eq_none (by simp; omega), List.getElem?_eq_none (by simp; omega)]; rfl
  · cases hc⟩
end
theorem oks_at {A R : List Nat} : ∀ {cs : List AV} {j : Nat}, oksB A R cs = true → j < cs.length → okB A R (cs.getD j .bad) = true
  | [], _, _, h => by simp at h
  | c :: cs, j, h, hj => by
    simp only [oksB] at h
    split at h
    · rename_i hc
      cases j with
      | zero => exact hc
      | succ j => exact oks_at (cs := cs) h (by simpa using hj)
    · cases h
theorem ok_row {A R : List Nat} {N : Nat} {t : TypeId} {cs : List AV} (hN : cs.length = N) (h : oksB A R cs = true) : ABOk A R (.row ⟨t, N, .leaf, cs, none⟩) := by
  subst hN
  show ((List.range cs.length).all fun j => okB A R (Row.get ⟨t, cs.length, .leaf, cs, none⟩ j)) = true
  rw [List.all_eq_true]
  intro j hj
  have hj : j < cs.length := by simpa using hj
  rw [row_at_i hj]; exact oks_at h hj
end Go.Px
end
/- FhJ -/
section
set_option linter.unusedVariables false
set_option linter.unusedSimpArgs false
set_option maxHeartbeats 4000000
set_option maxRecDepth 20000
namespace Go.Px.Fh
open Go.Proofs Go.Px.Fx
attribute [local irreducible] Go.Px.KOk
/-- the variables of the others, and those outside -/
noncomputable def othN (l : List Cl) (q : Int) (o : List Str) : Nat → List Str
  | 0 => o
  | n + 1 => othN l q o n ++ (bif bd ((n : Int) = q) then [] else VarsG (l.getD n default).vars)
noncomputable def shG (l : List Cl) (q : Int) (o : List Str) : List Str := keep (fun s => ¬ s ∈ othN l q o l.length) (VarsG (l.getD q.toNat default).vars)
theorem VarsG_len (l : List Str) : (VarsG l).length ≤ l.length := by
  have := compact_le (l.mergeSort sLe)
  rw [List.length_mergeSort] at this
  exact this
theorem cnt_at {l : List Cl} (i : Nat) (h : cntL l ≤ 10000) : (l.getD i default).cnt ≤ 10000 := by
  by_cases hi : i < l.length
  · have := cntL_at hi; omega
  · rw [List.getD_eq_getElem?_getD, List.getElem?_eq_none (by omega)]
    show Cl.cnt (.mk 0 [] [] [] []) ≤ 10000
    simp [Cl.cnt, cntL]
theorem vars_at {l : List Cl} (i : Nat) (h : cntL l ≤ 10000) : (VarsG (l.getD i default).vars).length ≤ 10000 :=
  Nat.le_trans (VarsG_len _) (Nat.le_trans (Cl.vars_len _) (cnt_at i h))
theorem othN_lenB (l : List Cl) (q : Int) (o : List Str) (B : Nat) (h : ∀ i, (VarsG (l.getD i default).vars).length ≤ B) : ∀ n, (othN l q o n).length ≤ o.length + n * B
  | 0 => by simp [othN]
  | n + 1 => by
    have h1 := othN_lenB l q o B h n
    have h2 := h n
    have e : (othN l q o (n + 1)).length = (othN l q o n).length + (bif bd ((n : Int) = q) then [] else VarsG (l.getD n default).vars).length := by simp [othN]
    have e2 : (n + 1) * B = n * B + B := Nat.succ_mul n B
    rw [e, e2]
    cases bd ((n : Int) = q)
    · simp only [cond_false]; omega
    · simp only [cond_true, List.length_nil]; omega
theorem othN_len (l : List Cl) (q : Int) (o : List Str) (h : cntL l ≤ 10000) (n : Nat) (hn : n ≤ 60) : (othN l q o n).length ≤ o.length + 600000 := by
  have h1 := othN_lenB l q o 10000 (fun i => vars_at i h) n
  have h2 : n * 10000 ≤ 60 * 10000 := Nat.mul_le_mul_right _ hn
  omega
noncomputable def e26 (c : Cl) (hb : c.cnt ≤ 10000) (hok : c.ok) : Ent cF := ⟨26, Unit, fun _ => [.agg (encF c)], fun _ => strsA (VarsG c.vars), fun _ => k26 c hb hok, fun _ => rfl, fun _ _ _ => rfl⟩
noncomputable def r12_0 : List Oper := ((drawn (Try.f12.body.getD .skip))[0]?).getD []
theorem drP12_0 : chkOrdP cF r12_0 3 [1, 2, 0] = true := by kernel_rfl
theorem k12 (l : List Cl) (q : Int) (o : List Str) (hb : cntL l ≤ 10000) (hok : okL l) (hl : l.length ≤ 60) (ho : o.length ≤ 100000) (hqq : 0 ≤ q ∧ q < l.length) : KOk cF 12 [clsA l, .int .i64 q, strsA o] (strsA (shG l q o)) := by
  have mc := m25 o ho
  rw [clsA_eq]
  refine KOk.of cF_ok eF.g Try.func12 rfl (Nat.le_of_ble_eq_true rfl) fun w F => ?_
  repeat' first | refine Go.seq ?_ | refine Go.region rfl ?_ | refine Ops.nil ?_ | refine Ops.callM (v' := .own 1 _ 1) (ab := [.none, .arr 9 1 _ _]) eF [] 0 (by first | exact Want.no rfl | exact Want.tT rfl rfl rfl rfl | exact Want.fF rfl rfl rfl rfl) rfl rfl rfl rfl mc rfl ⟨.inl rfl, trivial⟩ rfl trivial trivial rfl rfl rfl rfl rfl rfl rfl ?_ | refine Ops.val eF rfl rfl (by first | exact Want.no rfl | exact Want.tT rfl rfl rfl rfl | exact Want.fF rfl rfl rfl rfl) (by first | exact Hop.move rfl rfl | exact Hop.assign rfl rfl | exact Hop.pickT rfl rfl rfl | exact Hop.pickF rfl rfl rfl | exact Hop.lss rfl rfl rfl | exact Hop.geq rfl rfl rfl | exact Hop.lenD eF rfl rfl rfl rfl rfl rfl rfl) ?_ | refine Ops.skip rfl rfl (by first | exact Want.fT rfl rfl rfl rfl | exact Want.tF rfl rfl rfl rfl | exact Want.und rfl rfl rfl rfl) ?_ | refine Ops.gP rfl rfl (fun _ => ?_) (fun _ => ?_) | refine Ops.rowAt eF 2 rfl rfl (by first | exact Want.no rfl | exact Want.tT rfl rfl rfl rfl | exact Want.fF rfl rfl rfl rfl) rfl (Hop.alloc eF rfl rfl rfl) ?_ | refine Ops.unit eF rfl (by first | exact Want.no rfl | exact Want.tT rfl rfl rfl rfl | exact Want.fF rfl rfl rfl rfl) (Hop.store eF rfl rfl rfl rfl rfl rfl) (ArrKeep.put rfl) ?_ | refine Go.condT rfl ?_ | refine Go.condPt rfl (fun _ => ?_) (fun _ => ?_) | refine Go.block ?_ | refine Go.skip ?_ | refine Go.retF rfl ?_ rfl
  all_goals try (exfalso; omega)
  refine Go.toHQ (N := 3) (bs := [.none, .arr 9 1 o.length (o.flatMap Fx.encS), .row ⟨25, 1, .leaf, [.own 1 o.length 1], none⟩]) (L' := [(0, dsl 5 encF l), (1, .int .i64 q), (7, .ptr 2 0), (20, dsl 5 encF l), (21, .int .i64 l.length), (22, .int .i64 0)]) ?_ rfl eF.g ⟨rfl, rfl, rfl, rfl, rfl, rfl, trivial⟩ rfl rfl ⟨.inl rfl, .inr rfl, .inr rfl, trivial⟩ ⟨trivial, trivial, low_row rfl rfl, trivial⟩ rfl rfl
  refine Go.loop (fun i : Nat => [(0, dsl 5 encF l), (1, .int .i64 q), (7, .ptr 2 0), (20, dsl 5 encF l), (21, .int .i64 l.length), (22, .int .i64 i)]) (fun i => hq 3 [.none, .arr 9 1 (othN l q o i).length ((othN l q o i).flatMap Fx.encS), .row ⟨25, 1, .leaf, [.own 1 (othN l q o i).length 1], none⟩]) (fun i => i ≤ l.length) (fun i => l.length - i) 0 (Nat.zero_le _) ⟨rfl, rfl, rfl, rfl, rfl, rfl, trivial⟩ rfl (fun i hi ih => ?_)
  have hlo := othN_len l q o hb i (by omega)
  have hva := vars_at (l := l) (i : Int).toNat hb
  repeat' first | refine Go.seq ?_ | refine Go.region rfl ?_ | refine Ops.nil ?_ | refine Ops.val eF rfl rfl (by first | exact Want.no rfl | exact Want.tT rfl rfl rfl rfl | exact Want.fF rfl rfl rfl rfl) (by first | exact Hop.move rfl rfl | exact Hop.assign rfl rfl | exact Hop.lss rfl rfl rfl | exact Hop.neq rfl rfl rfl | exact Hop.add rfl rfl rfl (by omega) | exact Hop.idx eF rfl rfl rfl rfl rfl rfl rfl (fun _ => rfl) (by omega) | exact Hop.ldRG eF rfl rfl rfl rfl rfl) ?_ | refine Ops.rowAt eF 3 rfl rfl (by first | exact Want.no rfl | exact Want.tT rfl rfl rfl rfl | exact Want.fF rfl rfl rfl rfl) rfl (Hop.alloc eF rfl rfl rfl) ?_ | refine Ops.unit eF rfl (by first | exact Want.no rfl | exact Want.tT rfl rfl rfl rfl | exact Want.fF rfl rfl rfl rfl) (Hop.store eF rfl rfl rfl rfl rfl rfl) (ArrKeep.put rfl) ?_ | refine Go.condPt rfl (fun _ => ?_) (fun _ => ?_) | refine Go.condNt rfl (fun _ => ?_) (fun _ => ?_) | refine Go.block ?_ | refine Go.unblk ?_ | refine Go.skip ?_ | refine Go.exit rfl ?_
  all_goals try simp only [Int.toNat_natCast] at *
  · rename_i c1 c2
    have hcb := cnt_at (l := l) i hb
    have hcok := okL_at (l := l) (i := i) hok
    have est : othN l q o (i + 1) = othN l q o i ++ VarsG (l.getD i default).vars := by
      show othN l q o i ++ (bif bd ((i : Int) = q) then [] else VarsG (l.getD i default).vars) = _
      rw [bd_no c2]; rfl
    have g := ih (i + 1) (by show i + 1 ≤ _; omega) (by show l.length - (i + 1) < _; omega)
    generalize l.getD i default = c at *
    let n26 : Ent cF := e26 c hcb hcok
    refine Go.drawP eF hm [n26] 3 [1, 2, 0] drP12_0 ?_
    repeat' first | refine Dr.nil ?_ | refine Dr.pure rfl rfl rfl rfl (by first | exact Want.no rfl | exact Want.tT rfl rfl rfl rfl | exact Want.fF rfl rfl rfl rfl) (by first | exact Hop.ldP eF rfl rfl rfl rfl rfl rfl rfl | exact Hop.ldPG eF rfl rfl rfl rfl rfl rfl rfl) ?_ | refine Dr.light rfl rfl rfl rfl (by first | exact Want.no rfl | exact Want.tT rfl rfl rfl rfl | exact Want.fF rfl rfl rfl rfl) (by first | exact Hop.ldP eF rfl rfl rfl rfl rfl rfl rfl | exact Hop.ldPG eF rfl rfl rfl rfl rfl rfl rfl) ?_ | refine Dr.call rfl rfl rfl rfl (by first | exact Want.no rfl | exact Want.tT rfl rfl rfl rfl | exact Want.fF rfl rfl rfl rfl) rfl rfl rfl rfl (by first | exact pans_hd () rfl rfl) ?_
    all_goals refine Go.suf rfl ?_
    repeat' first | refine Go.region rfl ?_ | refine Ops.nil ?_ | refine Ops.val eF rfl rfl (by first | exact Want.no rfl | exact Want.tT rfl rfl rfl rfl | exact Want.fF rfl rfl rfl rfl) (by first | exact Hop.move rfl rfl | exact Hop.add rfl rfl rfl (by omega)) ?_ | refine Ops.appendE eF rfl rfl (by first | exact Want.no rfl | exact Want.tT rfl rfl rfl rfl | exact Want.fF rfl rfl rfl rfl) rfl rfl rfl rfl rfl rfl rfl rfl rfl rfl rfl rfl rfl rfl rfl rfl (by repeat' first | exact trivial | refine And.intro ?_ ?_ | exact .inr trivial | exact .inr (ind_row rfl rfl) | exact .inr rfl | exact .inl rfl | exact .inr (hindL _ _)) rfl rfl rfl rfl rfl (by first | rfl | exact ones_flat (fun _ => rfl) _) (by omega) ?_ | refine Ops.unit eF rfl (by first | exact Want.no rfl | exact Want.tT rfl rfl rfl rfl | exact Want.fF rfl rfl rfl rfl) (Hop.store eF rfl rfl rfl rfl rfl rfl) (ArrKeep.put rfl) ?_ | refine Go.unblk ?_
    rw [est, List.length_append, List.flatMap_append] at g
    exact Go.toQ g rfl eF.g ⟨rfl, rfl, rfl, rfl, rfl, rfl, trivial⟩ rfl rfl ⟨.inl rfl, .inr rfl, .inr rfl, trivial⟩ ⟨trivial, trivial, low_row rfl rfl, trivial⟩ rfl rfl
  · rename_i c1 c2
    have est : othN l q o (i + 1) = othN l q o i := by
      show othN l q o i ++ (bif bd ((i : Int) = q) then [] else VarsG (l.getD i default).vars) = _
      rw [bd_of c2]; exact List.append_nil _
    have g := ih (i + 1) (by show i + 1 ≤ _; omega) (by show l.length - (i + 1) < _; omega)
    rw [est] at g
    exact Go.toQ g rfl eF.g ⟨rfl, rfl, rfl, rfl, rfl, rfl, trivial⟩ rfl rfl ⟨.inl rfl, .inr rfl, .inr rfl, trivial⟩ ⟨trivial, trivial, low_row rfl rfl, trivial⟩ rfl rfl
  · have ei : i = l.length := by omega
    subst ei
    have m1 := m26 (l.getD q.toNat default) (cnt_at _ hb) (okL_at hok)
    have hvq := vars_at (l := l) q.toNat hb
    repeat' first | refine Ops.callM (v' := .own 6 _ 1) (ab := [.none, .none, .none, .arr 9 1 _ _]) eF [] 3 (by first | exact Want.no rfl | exact Want.tT rfl rfl rfl rfl | exact Want.fF rfl rfl rfl rfl) rfl rfl rfl rfl m1 rfl ⟨.inl rfl, trivial⟩ rfl trivial (by repeat' first | exact trivial | exact .inl rfl | exact .inr trivial | exact .inr (ok_row rfl rfl) | refine And.intro ?_ ?_) rfl rfl rfl rfl rfl rfl rfl ?_ | refine Ops.val eF rfl rfl (by first | exact Want.no rfl | exact Want.tT rfl rfl rfl rfl | exact Want.fF rfl rfl rfl rfl) (by first | exact Hop.makeFunc rfl rfl rfl) ?_
    refine Ops.change (Chg.cellFrz 2 1 rfl rfl (by repeat' first | exact trivial | exact .inl rfl | exact .inr trivial | exact .inr (ind_row rfl rfl) | refine And.intro ?_ ?_) rfl rfl rfl) ?_
    refine Ops.change (Chg.rowFrz 2 40 (ty := 25) (cs := [strsA (othN l q o l.length)]) rfl rfl rfl (by repeat' first | exact trivial | exact .inl rfl | exact .inr trivial | exact .inr (ind_row rfl rfl) | refine And.intro ?_ ?_) rfl rfl) ?_
    refine Ops.callM (v' := strsA _) (ab := [.none]) eF [6] 7 (Want.no rfl) rfl rfl rfl rfl (m27 (P := fun s => ¬ s ∈ othN l q o l.length) (VarsG (l.getD q.toNat default).vars) (fun s => k28 (othN l q o l.length) s (by omega)) (by omega)) rfl ⟨.inl rfl, .inl rfl, trivial⟩ rfl (by repeat' first | exact trivial | exact rfl | refine And.intro ?_ ?_) (by repeat' first | exact trivial | exact .inl rfl | exact .inr trivial | exact .inr (ok_row rfl rfl) | refine And.intro ?_ ?_) rfl rfl rfl rfl rfl rfl rfl ?_
    repeat' first | refine Ops.nil ?_ | refine Ops.val eF rfl rfl (by first | exact Want.no rfl | exact Want.tT rfl rfl rfl rfl | exact Want.fF rfl rfl rfl rfl) (by first | exact Hop.assign rfl rfl) ?_ | refine Go.retF rfl ?_ rfl
    rfl
theorem k12e (l : List Cl) (q : Int) (hqq : q < 0 ∨ l.length ≤ q) : KOk cF 12 [clsA l, .int .i64 q, .nilsl] (strsA []) := by
  rw [clsA_eq]
  refine KOk.of cF_ok eF.g Try.func12 rfl (Nat.le_of_ble_eq_true rfl) fun w F => ?_
  rcases Classical.em (q < 0) with h | h
  · repeat' first | refine Go.seq ?_ | refine Go.region rfl ?_ | refine Ops.nil ?_ | refine Ops.weakAt eF 6 rfl rfl (by first | exact Want.no rfl | exact Want.tT rfl rfl rfl rfl | exact Want.fF rfl rfl rfl rfl) (Hop.assign rfl rfl) (weak_nil 1) ?_ | refine Ops.val eF rfl rfl (by first | exact Want.no rfl | exact Want.tT rfl rfl rfl rfl | exact Want.fF rfl rfl rfl rfl) (by first | exact Hop.move rfl rfl | exact Hop.pickT rfl rfl rfl | exact Hop.lss rfl rfl rfl) ?_ | refine Ops.skip rfl rfl (by first | exact Want.fT rfl rfl rfl rfl | exact Want.tF rfl rfl rfl rfl | exact Want.und rfl rfl rfl rfl) ?_ | refine Ops.gT rfl rfl (by first | assumption | decide) ?_ | refine Go.condT rfl ?_ | refine Go.retF rfl ?_ rfl
    all_goals first | rfl | (exfalso; omega)
  · have h2 : (l.length : Int) ≤ q := by omega
    repeat' first | refine Go.seq ?_ | refine Go.region rfl ?_ | refine Ops.nil ?_ | refine Ops.weakAt eF 6 rfl rfl (by first | exact Want.no rfl | exact Want.tT rfl rfl rfl rfl | exact Want.fF rfl rfl rfl rfl) (Hop.assign rfl rfl) (weak_nil 1) ?_ | refine Ops.val eF rfl rfl (by first | exact Want.no rfl | exact Want.tT rfl rfl rfl rfl | exact Want.fF rfl rfl rfl rfl) (by first | exact Hop.move rfl rfl | exact Hop.pickF rfl rfl rfl | exact Hop.lss rfl rfl rfl | exact Hop.geq rfl rfl rfl | exact Hop.lenD eF rfl rfl rfl rfl rfl rfl rfl) ?_ | refine Ops.gF rfl rfl (by first | assumption | decide) ?_ | refine Go.condTt rfl (by first | assumption | decide) ?_ | refine Go.retF rfl ?_ rfl
    all_goals first | rfl | (exfalso; omega)
end Go.Px.Fh
end
/- FhK -/
section
set_option linter.unusedVariables false
set_option linter.unusedSimpArgs false
set_option maxHeartbeats 4000000
set_option maxRecDepth 20000
namespace Go.Px.Fh
open Go.Proofs Go.Px.Fx
attribute [local irreducible] Go.Px.KOk
theorem k30' (c : Cl) (hb : c.cnt ≤ 10000) (hok : c.ok) : KOk cF 30 [.agg (encF c)] (strsA (VarsG c.vars)) := by
  rw [vars_eq]; exact k30 c hb hok
theorem k14 (l : List Cl) (q : Int) (o : List Str) (hb : cntL l ≤ 10000) (hok : okL l) (hl : l.length ≤ 60) (ho : o.length ≤ 100000) (hqq : 0 ≤ q ∧ q < l.length) : KOk cF 14 [clsA l, .int .i64 q, strsA o] (strsA (shG l q o)) := by
  rw [clsA_eq]
  refine KOk.of cF_ok eF.g Try.func14 rfl (Nat.le_of_ble_eq_true rfl) fun w F => ?_
  repeat' first | refine Go.seq ?_ | refine Go.region rfl ?_ | refine Ops.nil ?_ | refine Ops.val eF rfl rfl (by first | exact Want.no rfl | exact Want.tT rfl rfl rfl rfl | exact Want.fF rfl rfl rfl rfl) (by first | exact Hop.move rfl rfl | exact Hop.assign rfl rfl) ?_ | refine Ops.appendNAt eF 0 rfl rfl rfl (fun _ => by first | exact Want.no rfl | exact Want.tT rfl rfl rfl rfl | exact Want.fF rfl rfl rfl rfl) rfl rfl rfl rfl rfl rfl (fun _ => rfl) rfl rfl rfl rfl rfl rfl rfl rfl (by repeat' first | exact trivial | refine And.intro ?_ ?_ | exact .inr trivial | exact .inr (ind_row rfl rfl) | exact .inr rfl | exact .inl rfl | exact .inr (hindL _ _)) rfl rfl rfl rfl rfl (by first | rfl | exact ones_flat (fun _ => rfl) _) (by omega) ?_ | refine Go.block ?_
  refine Go.toHQ (N := 1) (bs := [.arr 9 1 o.length (o.flatMap Fx.encS)]) (L' := [(0, dsl 5 encF l), (1, .int .i64 q), (7, .own 0 o.length 1), (8, .int .i64 0)]) ?_ rfl eF.g ⟨rfl, rfl, rfl, rfl, trivial⟩ rfl rfl ⟨.inr rfl, trivial⟩ ⟨trivial, trivial⟩ rfl rfl
  refine Go.loop (fun i : Nat => [(0, dsl 5 encF l), (1, .int .i64 q), (7, .own 0 (othN l q o i).length 1), (8, .int .i64 i)]) (fun i => hq 1 [.arr 9 1 (othN l q o i).length ((othN l q o i).flatMap Fx.encS)]) (fun i => i ≤ l.length) (fun i => l.length - i) 0 (Nat.zero_le _) ⟨rfl, rfl, rfl, rfl, trivial⟩ rfl (fun i hi ih => ?_)
  have hlo := othN_len l q o hb i (by omega)
  have hva := vars_at (l := l) (i : Int).toNat hb
  have hvq := vars_at (l := l) q.toNat hb
  have kc := k30' (l.getD (i : Int).toNat default) (cnt_at _ hb) (okL_at hok)
  have kq := k30' (l.getD q.toNat default) (cnt_at _ hb) (okL_at hok)
  repeat' first | refine Go.seq ?_ | refine Go.region rfl ?_ | refine Ops.nil ?_ | refine Ops.val eF rfl rfl (by first | exact Want.no rfl | exact Want.tT rfl rfl rfl rfl | exact Want.fF rfl rfl rfl rfl) (by first | exact Hop.move rfl rfl | exact Hop.assign rfl rfl | exact Hop.lss rfl rfl rfl | exact Hop.neq rfl rfl rfl | exact Hop.add rfl rfl rfl (by omega) | exact Hop.idx eF rfl rfl rfl rfl rfl rfl rfl (fun _ => rfl) (by omega) | exact Hop.ldRG eF rfl rfl rfl rfl rfl | exact Hop.lenD eF rfl rfl rfl rfl rfl rfl rfl) ?_ | refine Ops.call eF rfl rfl (by first | exact Want.no rfl | exact Want.tT rfl rfl rfl rfl | exact Want.fF rfl rfl rfl rfl) rfl rfl rfl rfl (kc) rfl ?_ | refine Ops.call eF rfl rfl (by first | exact Want.no rfl | exact Want.tT rfl rfl rfl rfl | exact Want.fF rfl rfl rfl rfl) rfl rfl rfl rfl (kq) rfl ?_ | refine Ops.appendE eF rfl rfl (by first | exact Want.no rfl | exact Want.tT rfl rfl rfl rfl | exact Want.fF rfl rfl rfl rfl) rfl rfl rfl rfl rfl rfl rfl rfl rfl rfl rfl rfl rfl rfl rfl rfl (by repeat' first | exact trivial | refine And.intro ?_ ?_ | exact .inr trivial | exact .inr (ind_row rfl rfl) | exact .inr rfl | exact .inl rfl | exact .inr (hindL _ _)) rfl rfl rfl rfl rfl (by first | rfl | exact ones_flat (fun _ => rfl) _) (by omega) ?_ | refine Go.condPt rfl (fun _ => ?_) (fun _ => ?_) | refine Go.condNt rfl (fun _ => ?_) (fun _ => ?_) | refine Go.block ?_ | refine Go.unblk ?_ | refine Go.skip ?_ | refine Go.exit rfl ?_
  all_goals try simp only [Int.toNat_natCast] at *
  · rename_i c1 c2
    have est : othN l q o (i + 1) = othN l q o i ++ VarsG (l.getD i default).vars := by
      show othN l q o i ++ (bif bd ((i : Int) = q) then [] else VarsG (l.getD i default).vars) = _
      rw [bd_no c2]; rfl
    have g := ih (i + 1) (by show i + 1 ≤ _; omega) (by show l.length - (i + 1) < _; omega)
    rw [est, List.length_append, List.flatMap_append] at g
    exact Go.toQ g rfl eF.g ⟨rfl, rfl, rfl, rfl, trivial⟩ rfl rfl ⟨.inr rfl, trivial⟩ ⟨trivial, trivial⟩ rfl rfl
  · rename_i c1 c2
    have est : othN l q o (i + 1) = othN l q o i := by
      show othN l q o i ++ (bif bd ((i : Int) = q) then [] else VarsG (l.getD i default).vars) = _
      rw [bd_of c2]; exact List.append_nil _
    have g := ih (i + 1) (by show i + 1 ≤ _; omega) (by show l.length - (i + 1) < _; omega)
    rw [est] at g
    exact Go.toQ g rfl eF.g ⟨rfl, rfl, rfl, rfl, trivial⟩ rfl rfl ⟨.inr rfl, trivial⟩ ⟨trivial, trivial⟩ rfl rfl
  · have ei : i = l.length := by omega
    subst ei
    refine Go.change (Chg.frz 7 rfl rfl ⟨.inl rfl, trivial⟩ rfl rfl (fun q => by cases q)) ?_
    refine Go.change (Chg.tokS 1 9 9 1 rfl rfl rfl) ?_
    unfold shG
    generalize hoo : othN l q o l.length = oo at *
    generalize hmm : VarsG (l.getD q.toNat default).vars = mine at *
    refine Go.toHQ (N := 2) (bs := [.none, .arr 9 1 0 []]) (L' := [(7, strsA oo), (9, .own 1 0 1), (10, strsA mine), (11, .int .i64 0)]) ?_ rfl eF.g ⟨rfl, rfl, rfl, rfl, trivial⟩ rfl rfl ⟨.inl rfl, .inr rfl, trivial⟩ ⟨trivial, trivial, trivial⟩ rfl rfl
    refine Go.loop (fun j : Nat => [(7, strsA oo), (9, .own 1 (keep (fun s => ¬ s ∈ oo) (mine.take j)).length 1), (10, strsA mine), (11, .int .i64 j)]) (fun j => hq 2 [.none, .arr 9 1 (keep (fun s => ¬ s ∈ oo) (mine.take j)).length ((keep (fun s => ¬ s ∈ oo) (mine.take j)).flatMap Fx.encS)]) (fun j => j ≤ mine.length) (fun j => mine.length - j) 0 (Nat.zero_le _) ⟨rfl, rfl, rfl, rfl, trivial⟩ rfl (fun j hj ihj => ?_)
    have hkl : (keep (fun s => ¬ s ∈ oo) (mine.take j)).length ≤ j := Nat.le_trans (List.length_filter_le _ _) (by rw [List.length_take]; omega)
    have ki := k31 (mine.getD (j : Int).toNat default) oo (by omega)
    repeat' first | refine Go.seq ?_ | refine Go.region rfl ?_ | refine Ops.nil ?_ | refine Ops.frzMv eF 6 rfl rfl rfl (by first | exact Want.no rfl | exact Want.tT rfl rfl rfl rfl | exact Want.fF rfl rfl rfl rfl) (by first | exact Hop.move rfl rfl | exact Hop.assign rfl rfl) rfl (by repeat' first | exact trivial | refine And.intro ?_ ?_ | exact .inr trivial | exact .inr (ind_row rfl rfl) | exact .inr rfl | exact .inl rfl | exact .inr (hindL _ _)) rfl rfl rfl rfl ?_ | refine Ops.val eF rfl rfl (by first | exact Want.no rfl | exact Want.tT rfl rfl rfl rfl | exact Want.fF rfl rfl rfl rfl) (by first | exact Hop.move rfl rfl | exact Hop.assign rfl rfl | exact Hop.lss rfl rfl rfl | exact Hop.add rfl rfl rfl (by omega) | exact Hop.idx eF rfl rfl rfl rfl rfl rfl rfl (fun _ => rfl) (by omega) | exact Hop.ldR eF rfl rfl rfl rfl rfl | exact Hop.lenD eF rfl rfl rfl rfl rfl rfl rfl) ?_ | refine Ops.call eF rfl rfl (by first | exact Want.no rfl | exact Want.tT rfl rfl rfl rfl | exact Want.fF rfl rfl rfl rfl) rfl rfl rfl rfl (ki) rfl ?_ | refine Ops.data eF rfl rfl (by first | exact Want.no rfl | exact Want.tT rfl rfl rfl rfl | exact Want.fF rfl rfl rfl rfl) rfl (Hop.bslice eF rfl rfl rfl rfl rfl rfl rfl rfl rfl rfl rfl) rfl rfl ?_ | refine Ops.appendE eF rfl rfl (by first | exact Want.no rfl | exact Want.tT rfl rfl rfl rfl | exact Want.fF rfl rfl rfl rfl) rfl rfl rfl rfl rfl rfl rfl rfl rfl rfl rfl rfl rfl rfl rfl rfl (by repeat' first | exact trivial | refine And.intro ?_ ?_ | exact .inr trivial | exact .inr (ind_row rfl rfl) | exact .inr rfl | exact .inl rfl | exact .inr (hindL _ _)) rfl rfl rfl rfl rfl (by first | rfl | exact ones_flat (fun _ => rfl) _) (by omega) ?_ | refine Go.condPt rfl (fun _ => ?_) (fun _ => ?_) | refine Go.block ?_ | refine Go.unblk ?_ | refine Go.skip ?_ | refine Go.exit rfl ?_ | refine Go.retF rfl ?_ rfl
    all_goals try simp only [Int.toNat_natCast] at *
    · rename_i c1 c2
      have g := ihj (j + 1) (by show j + 1 ≤ _; omega) (by show mine.length - (j + 1) < _; omega)
      rw [take_succ' (by omega), keep_app, keep_f (by simpa using c2), List.length_append, List.flatMap_append] at g
      exact Go.toQ g rfl eF.g ⟨rfl, rfl, rfl, rfl, trivial⟩ rfl rfl ⟨.inl rfl, .inr rfl, trivial⟩ ⟨trivial, trivial, trivial⟩ rfl rfl
    · rename_i c1 c2
      have g := ihj (j + 1) (by show j + 1 ≤ _; omega) (by show mine.length - (j + 1) < _; omega)
      rw [take_succ' (by omega), keep_app, keep_t (by simpa using c2), List.append_nil] at g
      exact Go.toQ g rfl eF.g ⟨rfl, rfl, rfl, rfl, trivial⟩ rfl rfl ⟨.inl rfl, .inr rfl, trivial⟩ ⟨trivial, trivial, trivial⟩ rfl rfl
    · have ej : j = mine.length := by omega
      subst ej
      rw [List.take_length]; rfl
end Go.Px.Fh
end
/- FhL -/
section
set_option linter.unusedVariables false
set_option linter.unusedSimpArgs false
set_option maxHeartbeats 4000000
set_option maxRecDepth 20000
namespace Go.Px.Fh
open Go.Proofs Go.Px.Fx
attribute [local irreducible] Go.Px.KOk
/-- a clause itself, if it calls -/
noncomputable def hdC (b : Bool) (c : Cl) : List (Cl × Bool) := bif bd (c.k = 4) then [(c, b)] else []
mutual
noncomputable def callsC (b : Bool) : Cl → List (Cl × Bool)
  | .mk k n a o kids => hdC b (.mk k n a o kids) ++ callsL (b || bd (k = 5)) kids
noncomputable def callsL (b : Bool) : List Cl → List (Cl × Bool)
  | [] => []
  | c :: r => callsC b c ++ callsL b r
end
theorem callsC_eq (b : Bool) (c : Cl) : callsC b c = hdC b c ++ callsL (b || bd (c.k = 5)) c.kids := by cases c; rfl
theorem callsL_app (b : Bool) : ∀ x y : List Cl, callsL b (x ++ y) = callsL b x ++ callsL b y
  | [], y => rfl
  | c :: x, y => by
    have := callsL_app b x y
    simp only [List.cons_append, callsL, this, List.append_assoc]
theorem callsL_succ (b : Bool) {l : List Cl} {i : Nat} (h : i < l.length) : callsL b (l.take (i + 1)) = callsL b (l.take i) ++ callsC b (l.getD i default) := by
  rw [take_succ' h, callsL_app]; simp [callsL]
theorem callsL_split (b : Bool) {l : List Cl} {i : Nat} (h : i < l.length) : callsL b l = callsL b (l.take i) ++ (hdC b (l.getD i default) ++ callsL (b || bd ((l.getD i default).k = 5)) (l.getD i default).kids) ++ callsL b (l.drop (i + 1)) := by
  rw [← callsC_eq, ← callsL_succ b h, ← callsL_app, List.take_append_drop]
mutual
theorem callsC_len (b : Bool) : ∀ c : Cl, (callsC b c).length ≤ c.cnt
  | .mk k n a o kids => by
    have h2 := callsL_len (b || bd (k = 5)) kids
    simp only [callsC, Cl.cnt, List.length_append, hdC]
    cases bd ((Cl.mk k n a o kids).k = 4) <;> simp <;> omega
theorem callsL_len (b : Bool) : ∀ l : List Cl, (callsL b l).length ≤ cntL l
  | [] => Nat.le_refl _
  | c :: r => by
    have h1 := callsC_len b c
    have h2 := callsL_len b r
    simp only [callsL, cntL, List.length_append]; omega
end
def itemB (p : Cl × Bool) : List AV := [.agg (encF p.1), .bool p.2]
theorem itemB_at {l : List (Cl × Bool)} {j : Nat} {v : List AV} (h : (l.map itemB)[j]? = some v) : j < l.length ∧ v = itemB (l.getD j default) := by
  rw [List.getElem?_map] at h
  by_cases hj : j < l.length
  · rw [List.getElem?_eq_getElem hj] at h
    refine ⟨hj, ?_⟩
    rw [List.getD_eq_getElem?_getD, List.getElem?_eq_getElem hj]
    exact (Option.some.inj h).symm
  · rw [List.getElem?_eq_none (by omega)] at h; cases h
theorem calls_head (b : Bool) {l : List Cl} {i : Nat} (h : i < l.length) (h4 : (l.getD i default).k = 4) : ((callsL b l).map itemB)[(callsL b (l.take i)).length]? = some [.agg (encF (l.getD i default)), .bool b] := by
  have e : hdC b (l.getD i default) = [(l.getD i default, b)] := by unfold hdC; rw [bd_of h4]; rfl
  rw [List.getElem?_map, callsL_split b h, e, List.append_assoc, List.getElem?_append_right (Nat.le_refl _), Nat.sub_self]; rfl
theorem calls_kid (b : Bool) {l : List Cl} {i j n : Nat} (h : i < l.length) (hn : n = (callsL b (l.take i)).length + (hdC b (l.getD i default)).length) (hj : j < (callsL (b || bd ((l.getD i default).k = 5)) (l.getD i default).kids).length) : ((callsL b l).map itemB)[n + j]? = some [.agg (encF ((callsL (b || bd ((l.getD i default).k = 5)) (l.getD i default).kids).getD j default).1), .bool ((callsL (b || bd ((l.getD i default).k = 5)) (l.getD i default).kids).getD j default).2] := by
  subst hn
  rw [List.getElem?_map, callsL_split b h, List.append_assoc, List.getElem?_append_right (by omega), Nat.add_assoc, Nat.add_sub_cancel_left, List.append_assoc, List.getElem?_append_right (by omega), Nat.add_sub_cancel_left, List.getElem?_append_left hj, List.getElem?_eq_getElem hj]
  have e : ∀ {x : List (Cl × Bool)} (h : j < x.length), x.getD j default = x[j] := fun {x} h => by rw [List.getD_eq_getElem?_getD, List.getElem?_eq_getElem h]; rfl
  rw [e hj]; rfl
theorem calls_next (b : Bool) {l : List Cl} {i n : Nat} (h : i < l.length) (hn : n = (callsL b (l.take i)).length + (hdC b (l.getD i default)).length) : n + (callsL (b || bd ((l.getD i default).k = 5)) (l.getD i default).kids).length = (callsL b (l.take (i + 1))).length := by
  rw [callsL_succ b h, callsC_eq, List.length_append, List.length_append, hn]; omega
theorem k22 (l : List Cl) (b : Bool) : KOk cF 22 [clsA l, .bool b] (.fn (.func 44) [] [.rptr [clsA l], .rptr [.bool b]]) := by
  refine KOk.of cF_ok eF.g Try.func22 rfl (Nat.le_of_ble_eq_true rfl) fun w F => ?_
  repeat' first | refine Go.seq ?_ | refine Go.region rfl ?_ | refine Ops.nil ?_ | refine Ops.val eF rfl rfl (by first | exact Want.no rfl | exact Want.tT rfl rfl rfl rfl | exact Want.fF rfl rfl rfl rfl) (by first | exact Hop.assign rfl rfl | exact Hop.makeFunc rfl rfl rfl) ?_ | refine Ops.boxR eF rfl rfl (by first | exact Want.no rfl | exact Want.tT rfl rfl rfl rfl | exact Want.fF rfl rfl rfl rfl) rfl rfl rfl rfl ?_ | refine Go.retF rfl ?_ rfl
  all_goals rfl
theorem it44 : ∀ (N : Nat) (l : List Cl) (b : Bool), cntL l < N → cntL l ≤ 100000 → KIt cF 44 [.rptr [clsA l], .rptr [.bool b]] ((callsL b l).map itemB) := by
  intro N
  induction N with
  | zero => intro l b hN; omega
  | succ N IH =>
  intro l b hN hb
  have hlen := cntL_len l
  rw [clsA_eq]
  refine KIt.of cF_ok eF.g Try.func44 rfl rfl fun w F opn G gx hG => ?_
  repeat' first | refine Go.seq ?_ | refine Go.region rfl ?_ | refine Ops.nil ?_ | refine Ops.val eF rfl rfl (by first | exact Want.no rfl | exact Want.tT rfl rfl rfl rfl | exact Want.fF rfl rfl rfl rfl) (by first | exact Hop.move rfl rfl | exact Hop.ldR eF rfl rfl rfl rfl rfl | exact Hop.lenD eF rfl rfl rfl rfl rfl rfl rfl) ?_ | refine Ops.rowAt eF 2 rfl rfl (by first | exact Want.no rfl | exact Want.tT rfl rfl rfl rfl | exact Want.fF rfl rfl rfl rfl) rfl (Hop.boxC rfl rfl rfl) ?_ | refine Go.block ?_
  refine Go.toHQ (N := 3) (bs := [.arr 0 0 0 [], .none, .row ⟨76, 1, .leaf, [.fn (.yield 1) [] []], none⟩]) (L' := [(1, .rptr [dsl 5 encF l]), (2, .rptr [.bool b]), (3, .ptr 2 0), (8, dsl 5 encF l), (9, .int .i64 l.length), (10, .int .i64 0)]) ?_ rfl eF.g ⟨rfl, rfl, rfl, rfl, rfl, rfl, trivial⟩ rfl rfl ⟨.inr rfl, .inl rfl, .inr rfl, trivial⟩ ⟨trivial, trivial, low_row rfl rfl, trivial⟩ rfl rfl
  refine Go.loopB (TT := l.length) (NN := 3) (N := ((callsL b l).map itemB).length) rfl eF.g (fun i => [(1, .rptr [dsl 5 encF l]), (2, .rptr [.bool b]), (3, .ptr 2 0), (8, dsl 5 encF l), (9, .int .i64 l.length), (10, .int .i64 i)]) (fun i => [.arr 0 (callsL b (l.take i)).length 0 [], .none, .row ⟨76, 1, .leaf, [.fn (.yield 1) [] []], none⟩]) (fun _ => rfl) (fun _ => ⟨trivial, trivial, low_row rfl rfl, trivial⟩) (fun _ => rfl) (fun _ => rfl) rfl rfl (fun _ => ⟨_, _, _, _, rfl⟩) ⟨rfl, rfl, rfl, rfl, rfl, rfl, trivial⟩ rfl (fun i hi b0 => ?_)
  have hk := fun b' => k22 (l.getD i default).kids b'
  have hki := fun (hlt : i < l.length) => cntL_at (l := l) (i := i) hlt
  rw [Cl.cnt_eq] at hki
  cases b with
  | true =>
    repeat' first | refine Go.seq ?_ | refine Go.region rfl ?_ | refine Ops.nil ?_ | refine Ops.val (d := 19) (v := .agg (encF (l.getD i default))) eF rfl rfl (by first | exact Want.no rfl | exact Want.tT rfl rfl rfl rfl | exact Want.fF rfl rfl rfl rfl) (by exact Hop.ldPG eF rfl rfl rfl rfl rfl rfl rfl) ?_ | refine Ops.yieldJ eF (by first | exact Want.no rfl | exact Want.tT rfl rfl rfl rfl | exact Want.fF rfl rfl rfl rfl) rfl rfl rfl rfl rfl rfl rfl (by rw [hG]; exact calls_head true (by omega) (by assumption)) rfl rfl ?_ ?_ | refine Ops.val eF rfl rfl (by first | exact Want.no rfl | exact Want.tT rfl rfl rfl rfl | exact Want.fF rfl rfl rfl rfl) (by first | exact Hop.move rfl rfl | exact Hop.pickT rfl rfl rfl | exact Hop.pickF rfl rfl rfl | exact Hop.not rfl rfl | exact Hop.lss rfl rfl rfl | exact Hop.eql rfl rfl rfl | exact Hop.faP eF rfl rfl rfl rfl rfl rfl rfl | exact Hop.idx eF rfl rfl rfl rfl rfl rfl rfl (fun _ => rfl) (by omega) | exact Hop.ldR eF rfl rfl rfl rfl rfl | exact Hop.ldRG eF rfl rfl rfl rfl rfl | exact Hop.ldP eF rfl rfl rfl rfl rfl rfl rfl) ?_ | refine Ops.skip rfl rfl (by first | exact Want.fT rfl rfl rfl rfl | exact Want.tF rfl rfl rfl rfl | exact Want.und rfl rfl rfl rfl) ?_ | refine Ops.gP rfl rfl (fun _ => ?_) (fun _ => ?_) | refine Ops.call eF rfl rfl (by first | exact Want.no rfl | exact Want.tT rfl rfl rfl rfl | exact Want.fF rfl rfl rfl rfl) rfl rfl rfl rfl (hk _) rfl ?_ | refine Ops.rowAt eF 3 rfl rfl (by first | exact Want.no rfl | exact Want.tT rfl rfl rfl rfl | exact Want.fF rfl rfl rfl rfl) rfl (Hop.alloc eF rfl rfl rfl) ?_ | refine Ops.unit eF rfl (by first | exact Want.no rfl | exact Want.tT rfl rfl rfl rfl | exact Want.fF rfl rfl rfl rfl) (Hop.store eF rfl rfl rfl rfl rfl rfl) (ArrKeep.put rfl) ?_ | refine Go.condT rfl ?_ | refine Go.condF rfl ?_ | refine Go.condPt rfl (fun _ => ?_) (fun _ => ?_) | refine Go.block ?_ | refine Go.skip ?_
    rotate_left
    · exact Go.retB ⟨⟨_, _, _, _, rfl, .inr (by rw [hG])⟩, (fun _ q => by cases q), List.nodup_nil, rfl⟩
    rotate_left
    · refine Go.endB rfl ?_
      refine ⟨⟨_, _, _, _, rfl, .inl ?_⟩, (fun _ q => by cases q), List.nodup_nil, rfl⟩
      rw [List.length_map, show i = l.length by omega, List.take_length]
    all_goals try simp only [Int.toNat_natCast] at *
    · have hlt : i < l.length := by omega
      have hc := hki hlt
      have hbase : ((callsL true (l.take i)).length + 1) = (callsL true (l.take i)).length + (hdC true (l.getD i default)).length := by
        unfold hdC
        rw [bd_of (by assumption)]; rfl
      refine Go.to (M := [(3, .ptr 2 0), (1, .rptr [dsl 5 encF l]), (2, .rptr [.bool true]), (8, dsl 5 encF l), (9, .int .i64 l.length), (10, .int .i64 i), (32, .fn (.func 44) [] [.rptr [clsA (l.getD i default).kids], .rptr [.bool true]])]) ?_ ⟨rfl, rfl, rfl, rfl, rfl, rfl, rfl, trivial⟩
      refine Go.rangeK eF 4 rfl rfl rfl (IH (l.getD i default).kids true (by omega) (by omega)) rfl (fun j => hq 5 [.arr 0 (((callsL true (l.take i)).length + 1) + j) 0 [], .none, .row ⟨76, 1, .leaf, [.fn (.yield 1) [] []], none⟩, .none, .dfr true])
        (fun b => ChgE.cut _ rfl eF.g rfl ⟨.inr rfl, .inl rfl, .inr rfl, .inl rfl, .inr rfl, trivial⟩ ⟨trivial, trivial, low_row rfl rfl, trivial, trivial, trivial⟩) (fun j v hv => by rw [(itemB_at hv).2]; rfl) rfl (fun j v hv b2 => ?_) ?_
      · obtain ⟨hj, rfl⟩ := itemB_at hv
        repeat' first | refine Go.seq ?_ | refine Go.region rfl ?_ | refine Ops.nil ?_ | refine Ops.val eF rfl rfl (by first | exact Want.no rfl | exact Want.tT rfl rfl rfl rfl | exact Want.fF rfl rfl rfl rfl) (by first | exact Hop.assign rfl rfl) ?_ | refine Ops.rowAt eF 5 rfl rfl (by first | exact Want.no rfl | exact Want.tT rfl rfl rfl rfl | exact Want.fF rfl rfl rfl rfl) rfl (Hop.alloc eF rfl rfl rfl) ?_ | refine Ops.unit eF rfl (by first | exact Want.no rfl | exact Want.tT rfl rfl rfl rfl | exact Want.fF rfl rfl rfl rfl) (Hop.store eF rfl rfl rfl rfl rfl rfl) (ArrKeep.put rfl) ?_
        refine Go.bodyK (fun b3 => ?_)
        repeat' first | refine Go.seq ?_ | refine Go.region rfl ?_ | refine Ops.nil ?_ | refine Ops.val (d := 36) (v := .agg (encF ((callsL true (l.getD i default).kids).getD j default).1)) eF rfl rfl (by first | exact Want.no rfl | exact Want.tT rfl rfl rfl rfl | exact Want.fF rfl rfl rfl rfl) (by exact Hop.ldPG eF rfl rfl rfl rfl rfl rfl rfl) ?_ | refine Ops.yieldJ eF (by first | exact Want.no rfl | exact Want.tT rfl rfl rfl rfl | exact Want.fF rfl rfl rfl rfl) rfl rfl rfl rfl rfl rfl rfl (by rw [hG]; exact calls_kid true hlt hbase hj) rfl rfl ?_ ?_ | refine Ops.val eF rfl rfl (by first | exact Want.no rfl | exact Want.tT rfl rfl rfl rfl | exact Want.fF rfl rfl rfl rfl) (by first | exact Hop.move rfl rfl | exact Hop.not rfl rfl | exact Hop.ldP eF rfl rfl rfl rfl rfl rfl rfl) ?_ | refine Go.condT rfl ?_ | refine Go.condF rfl ?_ | refine Go.block ?_ | refine Go.unblk ?_ | refine Go.skip ?_
        · exact Go.nextK (ChgE.cut _ rfl eF.g rfl ⟨.inr rfl, .inl rfl, .inr rfl, .inl rfl, .inr rfl, trivial⟩ ⟨trivial, trivial, low_row rfl rfl, trivial, trivial, trivial⟩)
        · exact Go.stopR fun e he => ⟨⟨_, _, _, _, rfl, .inr (by rw [hG])⟩, (fun d q => by cases List.mem_singleton.1 q; rfl), by simp, rfl⟩
      · repeat' first | refine Go.region rfl ?_ | refine Ops.nil ?_ | refine Ops.val eF rfl rfl (by first | exact Want.no rfl | exact Want.tT rfl rfl rfl rfl | exact Want.fF rfl rfl rfl rfl) (by first | exact Hop.move rfl rfl | exact Hop.add rfl rfl rfl (by omega)) ?_ | refine Go.unblk ?_
        refine Go.nextB (by omega) ⟨rfl, rfl, rfl, rfl, rfl, rfl, trivial⟩ ⟨.inr ?_, .inl rfl, .inr rfl, trivial⟩ rfl (fun d q => by cases List.mem_singleton.1 q; exact ⟨by omega, rfl⟩) (by simp)
        rw [← calls_next true hlt hbase]; simp only [List.length_map]; rfl
    · have hlt : i < l.length := by omega
      have hc := hki hlt
      have hbase : (callsL true (l.take i)).length = (callsL true (l.take i)).length + (hdC true (l.getD i default)).length := by
        unfold hdC
        rw [bd_no (by assumption)]; rfl
      refine Go.to (M := [(3, .ptr 2 0), (1, .rptr [dsl 5 encF l]), (2, .rptr [.bool true]), (8, dsl 5 encF l), (9, .int .i64 l.length), (10, .int .i64 i), (32, .fn (.func 44) [] [.rptr [clsA (l.getD i default).kids], .rptr [.bool true]])]) ?_ ⟨rfl, rfl, rfl, rfl, rfl, rfl, rfl, trivial⟩
      refine Go.rangeK eF 4 rfl rfl rfl (IH (l.getD i default).kids true (by omega) (by omega)) rfl (fun j => hq 5 [.arr 0 ((callsL true (l.take i)).length + j) 0 [], .none, .row ⟨76, 1, .leaf, [.fn (.yield 1) [] []], none⟩, .none, .dfr true])
        (fun b => ChgE.cut _ rfl eF.g rfl ⟨.inr rfl, .inl rfl, .inr rfl, .inl rfl, .inr rfl, trivial⟩ ⟨trivial, trivial, low_row rfl rfl, trivial, trivial, trivial⟩) (fun j v hv => by rw [(itemB_at hv).2]; rfl) rfl (fun j v hv b2 => ?_) ?_
      · obtain ⟨hj, rfl⟩ := itemB_at hv
        repeat' first | refine Go.seq ?_ | refine Go.region rfl ?_ | refine Ops.nil ?_ | refine Ops.val eF rfl rfl (by first | exact Want.no rfl | exact Want.tT rfl rfl rfl rfl | exact Want.fF rfl rfl rfl rfl) (by first | exact Hop.assign rfl rfl) ?_ | refine Ops.rowAt eF 5 rfl rfl (by first | exact Want.no rfl | exact Want.tT rfl rfl rfl rfl | exact Want.fF rfl rfl rfl rfl) rfl (Hop.alloc eF rfl rfl rfl) ?_ | refine Ops.unit eF rfl (by first | exact Want.no rfl | exact Want.tT rfl rfl rfl rfl | exact Want.fF rfl rfl rfl rfl) (Hop.store eF rfl rfl rfl rfl rfl rfl) (ArrKeep.put rfl) ?_
        refine Go.bodyK (fun b3 => ?_)
        repeat' first | refine Go.seq ?_ | refine Go.region rfl ?_ | refine Ops.nil ?_ | refine Ops.val (d := 36) (v := .agg (encF ((callsL true (l.getD i default).kids).getD j default).1)) eF rfl rfl (by first | exact Want.no rfl | exact Want.tT rfl rfl rfl rfl | exact Want.fF rfl rfl rfl rfl) (by exact Hop.ldPG eF rfl rfl rfl rfl rfl rfl rfl) ?_ | refine Ops.yieldJ eF (by first | exact Want.no rfl | exact Want.tT rfl rfl rfl rfl | exact Want.fF rfl rfl rfl rfl) rfl rfl rfl rfl rfl rfl rfl (by rw [hG]; exact calls_kid true hlt hbase hj) rfl rfl ?_ ?_ | refine Ops.val eF rfl rfl (by first | exact Want.no rfl | exact Want.tT rfl rfl rfl rfl | exact Want.fF rfl rfl rfl rfl) (by first | exact Hop.move rfl rfl | exact Hop.not rfl rfl | exact Hop.ldP eF rfl rfl rfl rfl rfl rfl rfl) ?_ | refine Go.condT rfl ?_ | refine Go.condF rfl ?_ | refine Go.block ?_ | refine Go.unblk ?_ | refine Go.skip ?_
        · exact Go.nextK (ChgE.cut _ rfl eF.g rfl ⟨.inr rfl, .inl rfl, .inr rfl, .inl rfl, .inr rfl, trivial⟩ ⟨trivial, trivial, low_row rfl rfl, trivial, trivial, trivial⟩)
        · exact Go.stopR fun e he => ⟨⟨_, _, _, _, rfl, .inr (by rw [hG])⟩, (fun d q => by cases List.mem_singleton.1 q; rfl), by simp, rfl⟩
      · repeat' first | refine Go.region rfl ?_ | refine Ops.nil ?_ | refine Ops.val eF rfl rfl (by first | exact Want.no rfl | exact Want.tT rfl rfl rfl rfl | exact Want.fF rfl rfl rfl rfl) (by first | exact Hop.move rfl rfl | exact Hop.add rfl rfl rfl (by omega)) ?_ | refine Go.unblk ?_
        refine Go.nextB (by omega) ⟨rfl, rfl, rfl, rfl, rfl, rfl, trivial⟩ ⟨.inr ?_, .inl rfl, .inr rfl, trivial⟩ rfl (fun d q => by cases List.mem_singleton.1 q; exact ⟨by omega, rfl⟩) (by simp)
        rw [← calls_next true hlt hbase]; simp only [List.length_map]; rfl
  | false =>
    repeat' first | refine Go.seq ?_ | refine Go.region rfl ?_ | refine Ops.nil ?_ | refine Ops.val (d := 19) (v := .agg (encF (l.getD i default))) eF rfl rfl (by first | exact Want.no rfl | exact Want.tT rfl rfl rfl rfl | exact Want.fF rfl rfl rfl rfl) (by exact Hop.ldPG eF rfl rfl rfl rfl rfl rfl rfl) ?_ | refine Ops.yieldJ eF (by first | exact Want.no rfl | exact Want.tT rfl rfl rfl rfl | exact Want.fF rfl rfl rfl rfl) rfl rfl rfl rfl rfl rfl rfl (by rw [hG]; exact calls_head false (by omega) (by assumption)) rfl rfl ?_ ?_ | refine Ops.val eF rfl rfl (by first | exact Want.no rfl | exact Want.tT rfl rfl rfl rfl | exact Want.fF rfl rfl rfl rfl) (by first | exact Hop.move rfl rfl | exact Hop.pickT rfl rfl rfl | exact Hop.pickF rfl rfl rfl | exact Hop.not rfl rfl | exact Hop.lss rfl rfl rfl | exact Hop.eql rfl rfl rfl | exact Hop.faP eF rfl rfl rfl rfl rfl rfl rfl | exact Hop.idx eF rfl rfl rfl rfl rfl rfl rfl (fun _ => rfl) (by omega) | exact Hop.ldR eF rfl rfl rfl rfl rfl | exact Hop.ldRG eF rfl rfl rfl rfl rfl | exact Hop.ldP eF rfl rfl rfl rfl rfl rfl rfl) ?_ | refine Ops.skip rfl rfl (by first | exact Want.fT rfl rfl rfl rfl | exact Want.tF rfl rfl rfl rfl | exact Want.und rfl rfl rfl rfl) ?_ | refine Ops.gP rfl rfl (fun _ => ?_) (fun _ => ?_) | refine Ops.call eF rfl rfl (by first | exact Want.no rfl | exact Want.tT rfl rfl rfl rfl | exact Want.fF rfl rfl rfl rfl) rfl rfl rfl rfl (hk _) rfl ?_ | refine Ops.rowAt eF 3 rfl rfl (by first | exact Want.no rfl | exact Want.tT rfl rfl rfl rfl | exact Want.fF rfl rfl rfl rfl) rfl (Hop.alloc eF rfl rfl rfl) ?_ | refine Ops.unit eF rfl (by first | exact Want.no rfl | exact Want.tT rfl rfl rfl rfl | exact Want.fF rfl rfl rfl rfl) (Hop.store eF rfl rfl rfl rfl rfl rfl) (ArrKeep.put rfl) ?_ | refine Go.condT rfl ?_ | refine Go.condF rfl ?_ | refine Go.condPt rfl (fun _ => ?_) (fun _ => ?_) | refine Go.block ?_ | refine Go.skip ?_
    rotate_left
    · exact Go.retB ⟨⟨_, _, _, _, rfl, .inr (by rw [hG])⟩, (fun _ q => by cases q), List.nodup_nil, rfl⟩
    rotate_left
    · refine Go.endB rfl ?_
      refine ⟨⟨_, _, _, _, rfl, .inl ?_⟩, (fun _ q => by cases q), List.nodup_nil, rfl⟩
      rw [List.length_map, show i = l.length by omega, List.take_length]
    all_goals try simp only [Int.toNat_natCast] at *
    · have hlt : i < l.length := by omega
      have hc := hki hlt
      have hbase : ((callsL false (l.take i)).length + 1) = (callsL false (l.take i)).length + (hdC false (l.getD i default)).length := by
        unfold hdC
        rw [bd_of (by assumption)]; rfl
      refine Go.to (M := [(3, .ptr 2 0), (1, .rptr [dsl 5 encF l]), (2, .rptr [.bool false]), (8, dsl 5 encF l), (9, .int .i64 l.length), (10, .int .i64 i), (32, .fn (.func 44) [] [.rptr [clsA (l.getD i default).kids], .rptr [.bool (bd ((l.getD i default).k = 5))]])]) ?_ ⟨rfl, rfl, rfl, rfl, rfl, rfl, rfl, trivial⟩
      refine Go.rangeK eF 4 rfl rfl rfl (IH (l.getD i default).kids (bd ((l.getD i default).k = 5)) (by omega) (by omega)) rfl (fun j => hq 5 [.arr 0 (((callsL false (l.take i)).length + 1) + j) 0 [], .none, .row ⟨76, 1, .leaf, [.fn (.yield 1) [] []], none⟩, .none, .dfr true])
        (fun b => ChgE.cut _ rfl eF.g rfl ⟨.inr rfl, .inl rfl, .inr rfl, .inl rfl, .inr rfl, trivial⟩ ⟨trivial, trivial, low_row rfl rfl, trivial, trivial, trivial⟩) (fun j v hv => by rw [(itemB_at hv).2]; rfl) rfl (fun j v hv b2 => ?_) ?_
      · obtain ⟨hj, rfl⟩ := itemB_at hv
        repeat' first | refine Go.seq ?_ | refine Go.region rfl ?_ | refine Ops.nil ?_ | refine Ops.val eF rfl rfl (by first | exact Want.no rfl | exact Want.tT rfl rfl rfl rfl | exact Want.fF rfl rfl rfl rfl) (by first | exact Hop.assign rfl rfl) ?_ | refine Ops.rowAt eF 5 rfl rfl (by first | exact Want.no rfl | exact Want.tT rfl rfl rfl rfl | exact Want.fF rfl rfl rfl rfl) rfl (Hop.alloc eF rfl rfl rfl) ?_ | refine Ops.unit eF rfl (by first | exact Want.no rfl | exact Want.tT rfl rfl rfl rfl | exact Want.fF rfl rfl rfl rfl) (Hop.store eF rfl rfl rfl rfl rfl rfl) (ArrKeep.put rfl) ?_
        refine Go.bodyK (fun b3 => ?_)
        repeat' first | refine Go.seq ?_ | refine Go.region rfl ?_ | refine Ops.nil ?_ | refine Ops.val (d := 36) (v := .agg (encF ((callsL (bd ((l.getD i default).k = 5)) (l.getD i default).kids).getD j default).1)) eF rfl rfl (by first | exact Want.no rfl | exact Want.tT rfl rfl rfl rfl | exact Want.fF rfl rfl rfl rfl) (by exact Hop.ldPG eF rfl rfl rfl rfl rfl rfl rfl) ?_ | refine Ops.yieldJ eF (by first | exact Want.no rfl | exact Want.tT rfl rfl rfl rfl | exact Want.fF rfl rfl rfl rfl) rfl rfl rfl rfl rfl rfl rfl (by rw [hG]; exact calls_kid false hlt hbase hj) rfl rfl ?_ ?_ | refine Ops.val eF rfl rfl (by first | exact Want.no rfl | exact Want.tT rfl rfl rfl rfl | exact Want.fF rfl rfl rfl rfl) (by first | exact Hop.move rfl rfl | exact Hop.not rfl rfl | exact Hop.ldP eF rfl rfl rfl rfl rfl rfl rfl) ?_ | refine Go.condT rfl ?_ | refine Go.condF rfl ?_ | refine Go.block ?_ | refine Go.unblk ?_ | refine Go.skip ?_
        · exact Go.nextK (ChgE.cut _ rfl eF.g rfl ⟨.inr rfl, .inl rfl, .inr rfl, .inl rfl, .inr rfl, trivial⟩ ⟨trivial, trivial, low_row rfl rfl, trivial, trivial, trivial⟩)
        · exact Go.stopR fun e he => ⟨⟨_, _, _, _, rfl, .inr (by rw [hG])⟩, (fun d q => by cases List.mem_singleton.1 q; rfl), by simp, rfl⟩
      · repeat' first | refine Go.region rfl ?_ | refine Ops.nil ?_ | refine Ops.val eF rfl rfl (by first | exact Want.no rfl | exact Want.tT rfl rfl rfl rfl | exact Want.fF rfl rfl rfl rfl) (by first | exact Hop.move rfl rfl | exact Hop.add rfl rfl rfl (by omega)) ?_ | refine Go.unblk ?_
        refine Go.nextB (by omega) ⟨rfl, rfl, rfl, rfl, rfl, rfl, trivial⟩ ⟨.inr ?_, .inl rfl, .inr rfl, trivial⟩ rfl (fun d q => by cases List.mem_singleton.1 q; exact ⟨by omega, rfl⟩) (by simp)
        rw [← calls_next false hlt hbase]; simp only [List.length_map]; rfl
    · have hlt : i < l.length := by omega
      have hc := hki hlt
      have hbase : (callsL false (l.take i)).length = (callsL false (l.take i)).length + (hdC false (l.getD i default)).length := by
        unfold hdC
        rw [bd_no (by assumption)]; rfl
      refine Go.to (M := [(3, .ptr 2 0), (1, .rptr [dsl 5 encF l]), (2, .rptr [.bool false]), (8, dsl 5 encF l), (9, .int .i64 l.length), (10, .int .i64 i), (32, .fn (.func 44) [] [.rptr [clsA (l.getD i default).kids], .rptr [.bool (bd ((l.getD i default).k = 5))]])]) ?_ ⟨rfl, rfl, rfl, rfl, rfl, rfl, rfl, trivial⟩
      refine Go.rangeK eF 4 rfl rfl rfl (IH (l.getD i default).kids (bd ((l.getD i default).k = 5)) (by omega) (by omega)) rfl (fun j => hq 5 [.arr 0 ((callsL false (l.take i)).length + j) 0 [], .none, .row ⟨76, 1, .leaf, [.fn (.yield 1) [] []], none⟩, .none, .dfr true])
        (fun b => ChgE.cut _ rfl eF.g rfl ⟨.inr rfl, .inl rfl, .inr rfl, .inl rfl, .inr rfl, trivial⟩ ⟨trivial, trivial, low_row rfl rfl, trivial, trivial, trivial⟩) (fun j v hv => by rw [(itemB_at hv).2]; rfl) rfl (fun j v hv b2 => ?_) ?_
      · obtain ⟨hj, rfl⟩ := itemB_at hv
        repeat' first | refine Go.seq ?_ | refine Go.region rfl ?_ | refine Ops.nil ?_ | refine Ops.val eF rfl rfl (by first | exact Want.no rfl | exact Want.tT rfl rfl rfl rfl | exact Want.fF rfl rfl rfl rfl) (by first | exact Hop.assign rfl rfl) ?_ | refine Ops.rowAt eF 5 rfl rfl (by first | exact Want.no rfl | exact Want.tT rfl rfl rfl rfl | exact Want.fF rfl rfl rfl rfl) rfl (Hop.alloc eF rfl rfl rfl) ?_ | refine Ops.unit eF rfl (by first | exact Want.no rfl | exact Want.tT rfl rfl rfl rfl | exact Want.fF rfl rfl rfl rfl) (Hop.store eF rfl rfl rfl rfl rfl rfl) (ArrKeep.put rfl) ?_
        refine Go.bodyK (fun b3 => ?_)
        repeat' first | refine Go.seq ?_ | refine Go.region rfl ?_ | refine Ops.nil ?_ | refine Ops.val (d := 36) (v := .agg (encF ((callsL (bd ((l.getD i default).k = 5)) (l.getD i default).kids).getD j default).1)) eF rfl rfl (by first | exact Want.no rfl | exact Want.tT rfl rfl rfl rfl | exact Want.fF rfl rfl rfl rfl) (by exact Hop.ldPG eF rfl rfl rfl rfl rfl rfl rfl) ?_ | refine Ops.yieldJ eF (by first | exact Want.no rfl | exact Want.tT rfl rfl rfl rfl | exact Want.fF rfl rfl rfl rfl) rfl rfl rfl rfl rfl rfl rfl (by rw [hG]; exact calls_kid false hlt hbase hj) rfl rfl ?_ ?_ | refine Ops.val eF rfl rfl (by first | exact Want.no rfl | exact Want.tT rfl rfl rfl rfl | exact Want.fF rfl rfl rfl rfl) (by first | exact Hop.move rfl rfl | exact Hop.not rfl rfl | exact Hop.ldP eF rfl rfl rfl rfl rfl rfl rfl) ?_ | refine Go.condT rfl ?_ | refine Go.condF rfl ?_ | refine Go.block ?_ | refine Go.unblk ?_ | refine Go.skip ?_
        · exact Go.nextK (ChgE.cut _ rfl eF.g rfl ⟨.inr rfl, .inl rfl, .inr rfl, .inl rfl, .inr rfl, trivial⟩ ⟨trivial, trivial, low_row rfl rfl, trivial, trivial, trivial⟩)
        · exact Go.stopR fun e he => ⟨⟨_, _, _, _, rfl, .inr (by rw [hG])⟩, (fun d q => by cases List.mem_singleton.1 q; rfl), by simp, rfl⟩
      · repeat' first | refine Go.region rfl ?_ | refine Ops.nil ?_ | refine Ops.val eF rfl rfl (by first | exact Want.no rfl | exact Want.tT rfl rfl rfl rfl | exact Want.fF rfl rfl rfl rfl) (by first | exact Hop.move rfl rfl | exact Hop.add rfl rfl rfl (by omega)) ?_ | refine Go.unblk ?_
        refine Go.nextB (by omega) ⟨rfl, rfl, rfl, rfl, rfl, rfl, trivial⟩ ⟨.inr ?_, .inl rfl, .inr rfl, trivial⟩ rfl (fun d q => by cases List.mem_singleton.1 q; exact ⟨by omega, rfl⟩) (by simp)
        rw [← calls_next false hlt hbase]; simp only [List.length_map]; rfl
end Go.Px.Fh
end
/- FhM -/
section
set_option linter.unusedVariables false
set_option linter.unusedSimpArgs false
set_option maxHeartbeats 4000000
set_option maxRecDepth 20000
namespace Go.Px.Fh
open Go.Proofs Go.Px.Fx
attribute [local irreducible] Go.Px.KOk
def encP (p : Cl × Bool) : List AV := [sA p.1.n, .int .i64 p.1.a.length, .bool p.2]
def clA (l : List (Cl × Bool)) : AV := dsl 3 encP l
noncomputable def r11_0 : List Oper := ((drawn (Try.f11.body.getD .skip))[0]?).getD []
theorem drS11_0 : chkOrdS cF r11_0 15 = true := by kernel_rfl
noncomputable def r11_1 : List Oper := ((drawn (Try.f11.body.getD .skip))[1]?).getD []
theorem drS11_1 : chkOrdS cF r11_1 14 = true := by kernel_rfl
theorem k11 : ∀ (N : Nat) (l : List Cl) (b : Bool), cntL l < N → cntL l ≤ 100000 → KOk cF 11 [clsA l, .bool b] (clA (callsL b l)) := by
  intro N
  induction N with
  | zero => intro l b hN; omega
  | succ N IH =>
  intro l b hN hb
  have hlen := cntL_len l
  rw [clsA_eq]
  refine KOk.of cF_ok eF.g Try.func11 rfl (Nat.le_of_ble_eq_true rfl) fun w F => ?_
  repeat' first | refine Go.seq ?_ | refine Go.region rfl ?_ | refine Ops.nil ?_ | refine Ops.val eF rfl rfl (by first | exact Want.no rfl | exact Want.tT rfl rfl rfl rfl | exact Want.fF rfl rfl rfl rfl) (by first | exact Hop.assign rfl rfl) ?_ | refine Go.block ?_
  refine Go.change (Chg.tokS 0 5 43 3 rfl rfl rfl) ?_
  refine Go.toHQ (N := 1) (bs := [.arr 43 3 0 []]) (L' := [(0, dsl 5 encF l), (1, .bool b), (5, .own 0 0 3), (6, .int .i64 0)]) ?_ rfl eF.g ⟨rfl, rfl, rfl, rfl, trivial⟩ rfl rfl ⟨.inr rfl, trivial⟩ ⟨trivial, trivial⟩ rfl rfl
  refine Go.loop (fun i : Nat => [(0, dsl 5 encF l), (1, .bool b), (5, .own 0 (callsL b (l.take i)).length 3), (6, .int .i64 i)]) (fun i => hq 1 [.arr 43 3 (callsL b (l.take i)).length ((callsL b (l.take i)).flatMap encP)]) (fun i => i ≤ l.length) (fun i => l.length - i) 0 (Nat.zero_le _) ⟨rfl, rfl, rfl, rfl, trivial⟩ (by simp [callsL]) (fun i hi ih => ?_)
  have hki := fun (hlt : i < l.length) => cntL_at (l := l) (i := i) hlt
  rw [Cl.cnt_eq] at hki
  repeat' first | refine Go.seq ?_ | refine Go.region rfl ?_ | refine Ops.nil ?_ | refine Ops.frzMv eF 4 rfl rfl rfl (by first | exact Want.no rfl | exact Want.tT rfl rfl rfl rfl | exact Want.fF rfl rfl rfl rfl) (by first | exact Hop.move rfl rfl | exact Hop.assign rfl rfl) rfl (by repeat' first | exact trivial | refine And.intro ?_ ?_ | exact .inr trivial | exact .inr (ind_row rfl rfl) | exact .inr rfl | exact .inl rfl | exact .inr (hindL _ _)) rfl rfl rfl rfl ?_ | refine Ops.val eF rfl rfl (by first | exact Want.no rfl | exact Want.tT rfl rfl rfl rfl | exact Want.fF rfl rfl rfl rfl) (by first | exact Hop.move rfl rfl | exact Hop.lss rfl rfl rfl | exact Hop.eql rfl rfl rfl | exact Hop.faR eF rfl rfl rfl rfl rfl rfl rfl | exact Hop.idx eF rfl rfl rfl rfl rfl rfl rfl (fun _ => rfl) (by omega) | exact Hop.ldR eF rfl rfl rfl rfl rfl | exact Hop.lenD eF rfl rfl rfl rfl rfl rfl rfl) ?_ | refine Go.condPt rfl (fun _ => ?_) (fun _ => ?_) | refine Go.block ?_ | refine Go.skip ?_ | refine Go.exit rfl ?_ | refine Go.retF rfl ?_ rfl
  all_goals try simp only [Int.toNat_natCast] at *
  · rename_i c1 c2
    have hlt : i < l.length := by omega
    have hc := hki hlt
    have hcl := callsL_len b (l.take i)
    have hck := fun b' => callsL_len b' (l.getD i default).kids
    have hck1 := hck true
    have hck2 := hck (bd ((l.getD i default).k = 5))
    refine Go.drawS2 eF hm [] 15 [0, 1, 2, 3, 4, 5, 6, 7, 8, 9, 10, 11, 12, 13, 14] rfl drS11_0 ?_
    repeat' first | refine Dr.nil ?_ | refine Dr.pure rfl rfl rfl rfl (by first | exact Want.no rfl | exact Want.tT rfl rfl rfl rfl | exact Want.fF rfl rfl rfl rfl) (by first | exact Hop.move rfl rfl | exact Hop.faR eF rfl rfl rfl rfl rfl rfl rfl | exact Hop.idx eF rfl rfl rfl rfl rfl rfl rfl (fun _ => rfl) (by omega) | exact Hop.ldR eF rfl rfl rfl rfl rfl | exact Hop.lenD eF rfl rfl rfl rfl rfl rfl rfl | exact Hop.build eF rfl rfl rfl rfl rfl rfl rfl) ?_ | refine Dr.light rfl rfl rfl rfl (by first | exact Want.no rfl | exact Want.tT rfl rfl rfl rfl | exact Want.fF rfl rfl rfl rfl) (by first | exact Hop.ldR eF rfl rfl rfl rfl rfl | exact Hop.lenD eF rfl rfl rfl rfl rfl rfl rfl) ?_ | refine Dr.slAt 1 rfl rfl rfl rfl (by first | exact Want.no rfl | exact Want.tT rfl rfl rfl rfl | exact Want.fF rfl rfl rfl rfl) rfl (Hop.bslice eF rfl rfl rfl rfl rfl rfl rfl rfl rfl rfl rfl) ?_
    all_goals refine Go.suf rfl ?_
    refine Ops.change (Chg.frzR 34 rfl rfl rfl rfl (by repeat' first | exact trivial | refine And.intro ?_ ?_ | exact .inr trivial | exact .inr rfl | exact .inl rfl) rfl rfl rfl) ?_
    repeat' first | refine Go.seq ?_ | refine Ops.nil ?_ | refine Ops.val eF rfl rfl (by first | exact Want.no rfl | exact Want.tT rfl rfl rfl rfl | exact Want.fF rfl rfl rfl rfl) (by first | exact Hop.assign rfl rfl) ?_ | refine Ops.appendE eF rfl rfl (by first | exact Want.no rfl | exact Want.tT rfl rfl rfl rfl | exact Want.fF rfl rfl rfl rfl) rfl rfl rfl rfl rfl rfl rfl rfl rfl rfl rfl rfl rfl rfl rfl rfl (by repeat' first | exact trivial | refine And.intro ?_ ?_ | exact .inr trivial | exact .inr (ind_row rfl rfl) | exact .inr rfl | exact .inl rfl | exact .inr (hindL _ _)) rfl rfl rfl rfl rfl (by first | rfl | exact ones_flat (fun _ => rfl) _) (by omega) ?_
    all_goals try simp only [Int.toNat_natCast] at *
    cases b with
    | true =>
      refine Go.drawS2 eF hm [] 14 [0, 1, 2, 3, 4, 5, 6, 7, 8, 9, 10, 11, 12, 13] rfl drS11_1 ?_
      repeat' first | refine Dr.nil ?_ | refine Dr.pure rfl rfl rfl rfl (by first | exact Want.no rfl | exact Want.tT rfl rfl rfl rfl | exact Want.fF rfl rfl rfl rfl) (by first | exact Hop.move rfl rfl | exact Hop.pickT rfl rfl rfl | exact Hop.faR eF rfl rfl rfl rfl rfl rfl rfl | exact Hop.idx eF rfl rfl rfl rfl rfl rfl rfl (fun _ => rfl) (by omega) | exact Hop.ldR eF rfl rfl rfl rfl rfl) ?_ | refine Dr.light rfl rfl rfl rfl (by first | exact Want.no rfl | exact Want.tT rfl rfl rfl rfl | exact Want.fF rfl rfl rfl rfl) (by first | exact Hop.ldR eF rfl rfl rfl rfl rfl) ?_ | refine Dr.skip rfl rfl rfl (by first | exact Want.fT rfl rfl rfl rfl | exact Want.tF rfl rfl rfl rfl | exact Want.und rfl rfl rfl rfl) ?_
      all_goals refine Go.suf rfl ?_
      repeat' first | refine Go.region rfl ?_ | refine Ops.nil ?_ | refine Ops.val eF rfl rfl (by first | exact Want.no rfl | exact Want.tT rfl rfl rfl rfl | exact Want.fF rfl rfl rfl rfl) (by first | exact Hop.move rfl rfl | exact Hop.assign rfl rfl | exact Hop.add rfl rfl rfl (by omega)) ?_ | refine Ops.call eF rfl rfl (by first | exact Want.no rfl | exact Want.tT rfl rfl rfl rfl | exact Want.fF rfl rfl rfl rfl) rfl rfl rfl rfl (IH (l.getD i default).kids true (by omega) (by omega)) rfl ?_ | refine Ops.appendE eF rfl rfl (by first | exact Want.no rfl | exact Want.tT rfl rfl rfl rfl | exact Want.fF rfl rfl rfl rfl) rfl rfl rfl rfl rfl rfl rfl rfl rfl rfl rfl rfl rfl rfl rfl rfl (by repeat' first | exact trivial | refine And.intro ?_ ?_ | exact .inr trivial | exact .inr (ind_row rfl rfl) | exact .inr rfl | exact .inl rfl | exact .inr (hindL _ _)) rfl rfl rfl rfl rfl (by first | rfl | exact ones_flat (fun _ => rfl) _) (by omega) ?_ | refine Go.unblk ?_
      have g := ih (i + 1) (by show i + 1 ≤ _; omega) (by show l.length - (i + 1) < _; omega)
      simp only [callsL_succ true hlt, callsC_eq, hdC, bd_of c2, cond_true, List.length_cons, List.length_nil, Nat.zero_add, List.flatMap_cons, List.flatMap_nil, List.append_nil, Bool.true_or, List.length_append, List.flatMap_append, ← Nat.add_assoc, ← List.append_assoc] at g
      exact Go.toQ g rfl eF.g ⟨rfl, rfl, rfl, rfl, trivial⟩ rfl rfl ⟨.inr rfl, trivial⟩ ⟨trivial, trivial⟩ rfl rfl
    | false =>
      refine Go.drawS2 eF hm [] 14 [0, 1, 2, 3, 4, 5, 6, 7, 8, 9, 10, 11, 12, 13] rfl drS11_1 ?_
      repeat' first | refine Dr.nil ?_ | refine Dr.pure rfl rfl rfl rfl (by first | exact Want.no rfl | exact Want.tT rfl rfl rfl rfl | exact Want.fF rfl rfl rfl rfl) (by first | exact Hop.move rfl rfl | exact Hop.pickF rfl rfl rfl | exact Hop.eql rfl rfl rfl | exact Hop.faR eF rfl rfl rfl rfl rfl rfl rfl | exact Hop.idx eF rfl rfl rfl rfl rfl rfl rfl (fun _ => rfl) (by omega) | exact Hop.ldR eF rfl rfl rfl rfl rfl) ?_ | refine Dr.light rfl rfl rfl rfl (by first | exact Want.no rfl | exact Want.tT rfl rfl rfl rfl | exact Want.fF rfl rfl rfl rfl) (by first | exact Hop.ldR eF rfl rfl rfl rfl rfl) ?_
      all_goals refine Go.suf rfl ?_
      repeat' first | refine Go.region rfl ?_ | refine Ops.nil ?_ | refine Ops.val eF rfl rfl (by first | exact Want.no rfl | exact Want.tT rfl rfl rfl rfl | exact Want.fF rfl rfl rfl rfl) (by first | exact Hop.move rfl rfl | exact Hop.assign rfl rfl | exact Hop.add rfl rfl rfl (by omega)) ?_ | refine Ops.call eF rfl rfl (by first | exact Want.no rfl | exact Want.tT rfl rfl rfl rfl | exact Want.fF rfl rfl rfl rfl) rfl rfl rfl rfl (IH (l.getD i default).kids (bd ((l.getD i default).k = 5)) (by omega) (by omega)) rfl ?_ | refine Ops.appendE eF rfl rfl (by first | exact Want.no rfl | exact Want.tT rfl rfl rfl rfl | exact Want.fF rfl rfl rfl rfl) rfl rfl rfl rfl rfl rfl rfl rfl rfl rfl rfl rfl rfl rfl rfl rfl (by repeat' first | exact trivial | refine And.intro ?_ ?_ | exact .inr trivial | exact .inr (ind_row rfl rfl) | exact .inr rfl | exact .inl rfl | exact .inr (hindL _ _)) rfl rfl rfl rfl rfl (by first | rfl | exact ones_flat (fun _ => rfl) _) (by omega) ?_ | refine Go.unblk ?_
      have g := ih (i + 1) (by show i + 1 ≤ _; omega) (by show l.length - (i + 1) < _; omega)
      simp only [callsL_succ false hlt, callsC_eq, hdC, bd_of c2, cond_true, List.length_cons, List.length_nil, Nat.zero_add, List.flatMap_cons, List.flatMap_nil, List.append_nil, Bool.false_or, List.length_append, List.flatMap_append, ← Nat.add_assoc, ← List.append_assoc] at g
      exact Go.toQ g rfl eF.g ⟨rfl, rfl, rfl, rfl, trivial⟩ rfl rfl ⟨.inr rfl, trivial⟩ ⟨trivial, trivial⟩ rfl rfl
  · rename_i c1 c2
    have hlt : i < l.length := by omega
    have hc := hki hlt
    have hcl := callsL_len b (l.take i)
    have hck := fun b' => callsL_len b' (l.getD i default).kids
    have hck1 := hck true
    have hck2 := hck (bd ((l.getD i default).k = 5))
    cases b with
    | true =>
      refine Go.drawS2 eF hm [] 14 [0, 1, 2, 3, 4, 5, 6, 7, 8, 9, 10, 11, 12, 13] rfl drS11_1 ?_
      repeat' first | refine Dr.nil ?_ | refine Dr.pure rfl rfl rfl rfl (by first | exact Want.no rfl | exact Want.tT rfl rfl rfl rfl | exact Want.fF rfl rfl rfl rfl) (by first | exact Hop.move rfl rfl | exact Hop.pickT rfl rfl rfl | exact Hop.faR eF rfl rfl rfl rfl rfl rfl rfl | exact Hop.idx eF rfl rfl rfl rfl rfl rfl rfl (fun _ => rfl) (by omega) | exact Hop.ldR eF rfl rfl rfl rfl rfl) ?_ | refine Dr.light rfl rfl rfl rfl (by first | exact Want.no rfl | exact Want.tT rfl rfl rfl rfl | exact Want.fF rfl rfl rfl rfl) (by first | exact Hop.ldR eF rfl rfl rfl rfl rfl) ?_ | refine Dr.skip rfl rfl rfl (by first | exact Want.fT rfl rfl rfl rfl | exact Want.tF rfl rfl rfl rfl | exact Want.und rfl rfl rfl rfl) ?_
      all_goals refine Go.suf rfl ?_
      repeat' first | refine Go.region rfl ?_ | refine Ops.nil ?_ | refine Ops.val eF rfl rfl (by first | exact Want.no rfl | exact Want.tT rfl rfl rfl rfl | exact Want.fF rfl rfl rfl rfl) (by first | exact Hop.move rfl rfl | exact Hop.assign rfl rfl | exact Hop.add rfl rfl rfl (by omega)) ?_ | refine Ops.call eF rfl rfl (by first | exact Want.no rfl | exact Want.tT rfl rfl rfl rfl | exact Want.fF rfl rfl rfl rfl) rfl rfl rfl rfl (IH (l.getD i default).kids true (by omega) (by omega)) rfl ?_ | refine Ops.appendE eF rfl rfl (by first | exact Want.no rfl | exact Want.tT rfl rfl rfl rfl | exact Want.fF rfl rfl rfl rfl) rfl rfl rfl rfl rfl rfl rfl rfl rfl rfl rfl rfl rfl rfl rfl rfl (by repeat' first | exact trivial | refine And.intro ?_ ?_ | exact .inr trivial | exact .inr (ind_row rfl rfl) | exact .inr rfl | exact .inl rfl | exact .inr (hindL _ _)) rfl rfl rfl rfl rfl (by first | rfl | exact ones_flat (fun _ => rfl) _) (by omega) ?_ | refine Go.unblk ?_
      have g := ih (i + 1) (by show i + 1 ≤ _; omega) (by show l.length - (i + 1) < _; omega)
      simp only [callsL_succ true hlt, callsC_eq, hdC, bd_no c2, cond_false, List.nil_append, Bool.true_or, List.length_append, List.flatMap_append, ← Nat.add_assoc, ← List.append_assoc] at g
      exact Go.toQ g rfl eF.g ⟨rfl, rfl, rfl, rfl, trivial⟩ rfl rfl ⟨.inr rfl, trivial⟩ ⟨trivial, trivial⟩ rfl rfl
    | false =>
      refine Go.drawS2 eF hm [] 14 [0, 1, 2, 3, 4, 5, 6, 7, 8, 9, 10, 11, 12, 13] rfl drS11_1 ?_
      repeat' first | refine Dr.nil ?_ | refine Dr.pure rfl rfl rfl rfl (by first | exact Want.no rfl | exact Want.tT rfl rfl rfl rfl | exact Want.fF rfl rfl rfl rfl) (by first | exact Hop.move rfl rfl | exact Hop.pickF rfl rfl rfl | exact Hop.eql rfl rfl rfl | exact Hop.faR eF rfl rfl rfl rfl rfl rfl rfl | exact Hop.idx eF rfl rfl rfl rfl rfl rfl rfl (fun _ => rfl) (by omega) | exact Hop.ldR eF rfl rfl rfl rfl rfl) ?_ | refine Dr.light rfl rfl rfl rfl (by first | exact Want.no rfl | exact Want.tT rfl rfl rfl rfl | exact Want.fF rfl rfl rfl rfl) (by first | exact Hop.ldR eF rfl rfl rfl rfl rfl) ?_
      all_goals refine Go.suf rfl ?_
      repeat' first | refine Go.region rfl ?_ | refine Ops.nil ?_ | refine Ops.val eF rfl rfl (by first | exact Want.no rfl | exact Want.tT rfl rfl rfl rfl | exact Want.fF rfl rfl rfl rfl) (by first | exact Hop.move rfl rfl | exact Hop.assign rfl rfl | exact Hop.add rfl rfl rfl (by omega)) ?_ | refine Ops.call eF rfl rfl (by first | exact Want.no rfl | exact Want.tT rfl rfl rfl rfl | exact Want.fF rfl rfl rfl rfl) rfl rfl rfl rfl (IH (l.getD i default).kids (bd ((l.getD i default).k = 5)) (by omega) (by omega)) rfl ?_ | refine Ops.appendE eF rfl rfl (by first | exact Want.no rfl | exact Want.tT rfl rfl rfl rfl | exact Want.fF rfl rfl rfl rfl) rfl rfl rfl rfl rfl rfl rfl rfl rfl rfl rfl rfl rfl rfl rfl rfl (by repeat' first | exact trivial | refine And.intro ?_ ?_ | exact .inr trivial | exact .inr (ind_row rfl rfl) | exact .inr rfl | exact .inl rfl | exact .inr (hindL _ _)) rfl rfl rfl rfl rfl (by first | rfl | exact ones_flat (fun _ => rfl) _) (by omega) ?_ | refine Go.unblk ?_
      have g := ih (i + 1) (by show i + 1 ≤ _; omega) (by show l.length - (i + 1) < _; omega)
      simp only [callsL_succ false hlt, callsC_eq, hdC, bd_no c2, cond_false, List.nil_append, Bool.false_or, List.length_append, List.flatMap_append, ← Nat.add_assoc, ← List.append_assoc] at g
      exact Go.toQ g rfl eF.g ⟨rfl, rfl, rfl, rfl, trivial⟩ rfl rfl ⟨.inr rfl, trivial⟩ ⟨trivial, trivial⟩ rfl rfl
  · have ei : i = l.length := by omega
    subst ei
    rw [List.take_length]; rfl
end Go.Px.Fh
end
/- FhO -/
section
set_option linter.unusedVariables false
set_option linter.unusedSimpArgs false
set_option maxHeartbeats 4000000
set_option maxRecDepth 20000
namespace Go.Px.Fh
open Go.Proofs Go.Px.Fx
attribute [local irreducible] Go.Px.KOk
/-- an argument that is too long -/
def badA (x : Ag) : Prop := 200 < x.x.length ∨ 1100 < x.v.s.length
mutual
noncomputable def mnC (d n : Int) : Cl → Int
  | .mk k nm a o kids => bif bd (60 < d ∨ 40 < a.length) then 3001 else bif bd (∃ i, i < a.length ∧ badA (a.getD i default)) then 3001 else
      bif bd (3000 < n + 1 + mnL (d + 1) 0 kids ∨ 200 < nm.length ∨ 200 < o.length) then 3001 else n + 1 + mnL (d + 1) 0 kids
noncomputable def mnL (d n : Int) : List Cl → Int
  | [] => n
  | c :: r => bif bd (3000 < mnC d n c) then 3001 else mnL d (mnC d n c) r
end
theorem mnC_eq (d n : Int) (c : Cl) : mnC d n c = bif bd (60 < d ∨ 40 < c.a.length) then 3001 else bif bd (∃ i, i < c.a.length ∧ badA (c.a.getD i default)) then 3001 else
      bif bd (3000 < n + 1 + mnL (d + 1) 0 c.kids ∨ 200 < c.n.length ∨ 200 < c.o.length) then 3001 else n + 1 + mnL (d + 1) 0 c.kids := by cases c; rfl
theorem bif_t {α : Type} {P : Prop} {a b : α} (h : P) : (bif bd P then a else b) = a := by rw [bd_of h]; rfl
theorem bif_f {α : Type} {P : Prop} {a b : α} (h : ¬ P) : (bif bd P then a else b) = b := by rw [bd_no h]; rfl
mutual
theorem mnC_all : ∀ (c : Cl) (d n : Int), 0 ≤ n → n ≤ 3000 → 0 ≤ mnC d n c ∧ mnC d n c ≤ 3001 ∧ (mnC d n c ≤ 3000 → c.cnt + 41 * n ≤ 41 * mnC d n c ∧ c.ok)
  | .mk k nm a o kids, d, n, h0, h1 => by
    have hk := mnL_all kids (d + 1) 0 (by omega) (by omega)
    simp only [mnC]
    by_cases c1 : 60 < d ∨ 40 < a.length
    · rw [bif_t c1]; exact ⟨by omega, by omega, fun h => by omega⟩
    rw [bif_f c1]
    by_cases c2 : ∃ i, i < a.length ∧ badA (a.getD i default)
    · rw [bif_t c2]; exact ⟨by omega, by omega, fun h => by omega⟩
    rw [bif_f c2]
    by_cases c3 : 3000 < n + 1 + mnL (d + 1) 0 kids ∨ 200 < nm.length ∨ 200 < o.length
    · rw [bif_t c3]; exact ⟨by omega, by omega, fun h => by omega⟩
    rw [bif_f c3]
    have hk2 := hk.2.2 (by omega)
    refine ⟨by omega, by omega, fun h => ⟨?_, ?_⟩⟩
    · simp only [Cl.cnt]; omega
    · refine ⟨by omega, fun i => ?_, by omega, hk2.2⟩
      by_cases hi : i < a.length
      · by_cases hb : 200 < (a.getD i default).x.length
        · exact absurd ⟨i, hi, .inl hb⟩ c2
        · omega
      · have e : a.getD i default = default := by
          rw [List.getD_eq_getElem?_getD, List.getElem?_eq_none (by omega)]; rfl
        rw [e]
        exact Nat.zero_le _
theorem mnL_all : ∀ (l : List Cl) (d n : Int), 0 ≤ n → n ≤ 3000 → 0 ≤ mnL d n l ∧ mnL d n l ≤ 3001 ∧ (mnL d n l ≤ 3000 → cntL l + 41 * n ≤ 41 * mnL d n l ∧ okL l)
  | [], d, n, h0, h1 => by simp only [mnL, cntL, okL]; exact ⟨by omega, by omega, fun _ => ⟨by omega, trivial⟩⟩
  | c :: r, d, n, h0, h1 => by
    have hc := mnC_all c d n h0 h1
    simp only [mnL]
    by_cases c1 : 3000 < mnC d n c
    · rw [bif_t c1]; exact ⟨by omega, by omega, fun h => by omega⟩
    rw [bif_f c1]
    have hr := mnL_all r d (mnC d n c) hc.1 (by omega)
    have hc2 := hc.2.2 (by omega)
    refine ⟨hr.1, hr.2.1, fun h => ?_⟩
    have hr2 := hr.2.2 h
    refine ⟨?_, hc2.2, hr2.2⟩
    have e : ((cntL (c :: r) : Nat) : Int) = c.cnt + cntL r := by simp only [cntL]; omega
    omega
end
theorem mnC_one (c : Cl) (d n : Int) (h0 : 0 ≤ n) (h1 : n ≤ 3000) (h : mnC d n c ≤ 3000) : n + 1 ≤ mnC d n c := by
  obtain ⟨k, nm, a, o, kids⟩ := c
  have hk := mnL_all kids (d + 1) 0 (by omega) (by omega)
  simp only [mnC] at h ⊢
  by_cases c1 : 60 < d ∨ 40 < a.length
  · rw [bif_t c1] at h; omega
  rw [bif_f c1] at h ⊢
  by_cases c2 : ∃ i, i < a.length ∧ badA (a.getD i default)
  · rw [bif_t c2] at h; omega
  rw [bif_f c2] at h ⊢
  by_cases c3 : 3000 < n + 1 + mnL (d + 1) 0 kids ∨ 200 < nm.length ∨ 200 < o.length
  · rw [bif_t c3] at h; omega
  rw [bif_f c3] at h ⊢
  omega
theorem mnL_len : ∀ (l : List Cl) (d n : Int), 0 ≤ n → n ≤ 3000 → mnL d n l ≤ 3000 → n + l.length ≤ mnL d n l
  | [], d, n, h0, h1, _ => by simp only [mnL, List.length_nil]; omega
  | c :: r, d, n, h0, h1, h => by
    have hc := mnC_all c d n h0 h1
    simp only [mnL] at h ⊢
    by_cases c1 : 3000 < mnC d n c
    · rw [bif_t c1] at h; omega
    rw [bif_f c1] at h ⊢
    have ho := mnC_one c d n h0 h1 (by omega)
    have hr := mnL_len r d (mnC d n c) hc.1 (by omega) h
    simp only [List.length_cons]; omega
theorem drop_at {α : Type} [Inhabited α] {l : List α} {i : Nat} (h : i < l.length) : l.drop i = l.getD i default :: l.drop (i + 1) := by
  rw [List.drop_eq_getElem_cons h, List.getD_eq_getElem?_getD, List.getElem?_eq_getElem h]; rfl
theorem mnL_drop {d n : Int} {l : List Cl} {i : Nat} (h : i < l.length) : mnL d n (l.drop i) = bif bd (3000 < mnC d n (l.getD i default)) then 3001 else mnL d (mnC d n (l.getD i default)) (l.drop (i + 1)) := by
  rw [drop_at h]; rfl
theorem k20 : ∀ (N : Nat) (l : List Cl) (d : Int), cntL l < N → cntL l ≤ 2000000 → 0 ≤ d → d ≤ 61 → KOk cF 20 [clsA l, .int .i64 d] (.int .i64 (mnL d 0 l)) := by
  intro N
  induction N with
  | zero => intro l d hN; omega
  | succ N IH =>
  intro l d hN hb hd0 hd1
  have hlen := cntL_len l
  rw [clsA_eq]
  refine KOk.of cF_ok eF.g Try.func20 rfl (Nat.le_of_ble_eq_true rfl) fun w F => ?_
  repeat' first | refine Go.seq ?_ | refine Go.region rfl ?_ | refine Ops.nil ?_ | refine Ops.val eF rfl rfl (by first | exact Want.no rfl | exact Want.tT rfl rfl rfl rfl | exact Want.fF rfl rfl rfl rfl) (by first | exact Hop.assign rfl rfl) ?_ | refine Go.block ?_
  refine Go.loop (fun q : Nat × Int => [(0, dsl 5 encF l), (1, .int .i64 d), (5, .int .i64 q.2), (6, .int .i64 q.1)]) (fun _ => hS) (fun q => q.1 ≤ l.length ∧ 0 ≤ q.2 ∧ q.2 ≤ 3000 ∧ mnL d q.2 (l.drop q.1) = mnL d 0 l) (fun q => l.length - q.1) (0, 0) ⟨Nat.zero_le _, Int.le_refl _, by decide, rfl⟩ ⟨rfl, rfl, rfl, rfl, trivial⟩ rfl (fun q hP ih => ?_)
  obtain ⟨i, n⟩ := q
  obtain ⟨hi, hn0, hn1, he⟩ := hP
  simp only at hi hn0 hn1 he ⊢
  have hki := fun (hlt : i < l.length) => cntL_at (l := l) (i := i) hlt
  rw [Cl.cnt_eq] at hki
  have out : ∀ (hlt : i < l.length), 3000 < mnC d n (l.getD i default) → one [ofV (Value.int .i64 3001)] = AV.int .i64 (mnL d 0 l) := fun hlt h => by
    rw [← he, mnL_drop hlt, bif_t h]; rfl
  by_cases c0 : (i : Int) < (l.length : Int)
  rotate_left
  · have ei : i = l.length := by omega
    subst ei
    rw [List.drop_length] at he
    repeat' first | refine Go.seq ?_ | refine Go.region rfl ?_ | refine Ops.nil ?_ | refine Ops.val eF rfl rfl (by first | exact Want.no rfl | exact Want.tT rfl rfl rfl rfl | exact Want.fF rfl rfl rfl rfl) (by first | exact Hop.move rfl rfl | exact Hop.assign rfl rfl | exact Hop.lss rfl rfl rfl | exact Hop.lenD eF rfl rfl rfl rfl rfl rfl rfl) ?_ | refine Go.condFt rfl (by first | assumption | decide) ?_ | refine Go.exit rfl ?_ | refine Go.retF rfl ?_ rfl
    all_goals (rw [← he]; rfl)
  have hlt : i < l.length := by omega
  have hc := hki hlt
  rw [mnL_drop hlt] at he
  replace out := out hlt
  have hmn := mnC_eq d n (l.getD i default)
  have hkid := mnL_all (l.getD i default).kids (d + 1) 0 (by omega) (by omega)
  repeat' first | refine Go.seq ?_ | refine Go.region rfl ?_ | refine Ops.nil ?_ | refine Ops.val eF rfl rfl (by first | exact Want.no rfl | exact Want.tT rfl rfl rfl rfl | exact Want.fF rfl rfl rfl rfl) (by first | exact Hop.move rfl rfl | exact Hop.assign rfl rfl | exact Hop.pickT rfl rfl rfl | exact Hop.pickF rfl rfl rfl | exact Hop.lss rfl rfl rfl | exact Hop.gtr rfl rfl rfl | exact Hop.faR eF rfl rfl rfl rfl rfl rfl rfl | exact Hop.idx eF rfl rfl rfl rfl rfl rfl rfl (fun _ => rfl) (by omega) | exact Hop.ldR eF rfl rfl rfl rfl rfl | exact Hop.lenD eF rfl rfl rfl rfl rfl rfl rfl) ?_ | refine Ops.skip rfl rfl (by first | exact Want.fT rfl rfl rfl rfl | exact Want.tF rfl rfl rfl rfl | exact Want.und rfl rfl rfl rfl) ?_ | refine Ops.gP rfl rfl (fun _ => ?_) (fun _ => ?_) | refine Go.condT rfl ?_ | refine Go.condTt rfl (by first | assumption | decide) ?_ | refine Go.condPt rfl (fun _ => ?_) (fun _ => ?_) | refine Go.block ?_ | refine Go.skip ?_ | refine Go.retF rfl ?_ rfl
  all_goals try simp only [Int.toNat_natCast] at *
  · exact out (by rw [hmn, bif_t (.inl (by assumption))]; decide)
  · exact out (by rw [hmn, bif_t (.inr (by omega))]; decide)
  rename_i c1 c2
  rw [bif_f (by omega : ¬ (60 < d ∨ 40 < (l.getD i default).a.length))] at hmn
  refine Go.loop (fun j : Nat => [(0, dsl 5 encF l), (1, .int .i64 d), (5, .int .i64 n), (6, .int .i64 i), (31, .int .i64 (l.getD i default).a.length), (32, .int .i64 j)]) (fun _ => hS) (fun j => j ≤ (l.getD i default).a.length ∧ ∀ t, t < j → ¬ badA ((l.getD i default).a.getD t default)) (fun j => (l.getD i default).a.length - j) 0 ⟨Nat.zero_le _, fun t ht => absurd ht (Nat.not_lt_zero _)⟩ ⟨rfl, rfl, rfl, rfl, rfl, rfl, trivial⟩ rfl (fun j hj ih2 => ?_)
  obtain ⟨hj, hjn⟩ := hj
  by_cases c3 : (j : Int) < ((l.getD i default).a.length : Int)
  · have hjl : j < (l.getD i default).a.length := by omega
    have hjl' : j < (l.getD (i : Int).toNat default).a.length := hjl
    repeat' first | refine Go.seq ?_ | refine Go.region rfl ?_ | refine Ops.nil ?_ | refine Ops.val eF rfl rfl (by first | exact Want.no rfl | exact Want.tT rfl rfl rfl rfl | exact Want.fF rfl rfl rfl rfl) (by first | exact Hop.move rfl rfl | exact Hop.assign rfl rfl | exact Hop.pickT rfl rfl rfl | exact Hop.pickF rfl rfl rfl | exact Hop.lss rfl rfl rfl | exact Hop.gtr rfl rfl rfl | exact Hop.add rfl rfl rfl (by omega) | exact Hop.faR eF rfl rfl rfl rfl rfl rfl rfl | exact Hop.idx eF rfl rfl rfl rfl rfl rfl rfl (fun _ => rfl) (by omega) | exact Hop.ldR eF rfl rfl rfl rfl rfl | exact Hop.lenS eF rfl rfl rfl rfl rfl rfl rfl) ?_ | refine Ops.skip rfl rfl (by first | exact Want.fT rfl rfl rfl rfl | exact Want.tF rfl rfl rfl rfl | exact Want.und rfl rfl rfl rfl) ?_ | refine Ops.gP rfl rfl (fun _ => ?_) (fun _ => ?_) | refine Go.condT rfl ?_ | refine Go.condTt rfl (by first | assumption | decide) ?_ | refine Go.condPt rfl (fun _ => ?_) (fun _ => ?_) | refine Go.block ?_ | refine Go.unblk ?_ | refine Go.skip ?_ | refine Go.retF rfl ?_ rfl
    all_goals try simp only [Int.toNat_natCast] at *
    · exact out (by rw [hmn, bif_t ⟨j, hjl, .inl (by omega)⟩]; decide)
    · exact out (by rw [hmn, bif_t ⟨j, hjl, .inr (by omega)⟩]; decide)
    · rename_i c4 c5
      refine Go.to (ih2 (j + 1) ⟨by omega, fun t ht => ?_⟩ (by omega)) ⟨rfl, rfl, rfl, rfl, rfl, rfl, trivial⟩
      rcases lt_succ_cases ht with h | rfl
      · exact hjn t h
      · rintro (h | h) <;> omega
  · have ej : j = (l.getD i default).a.length := by omega
    subst ej
    rw [bif_f (fun ⟨t, ht, hb⟩ => hjn t ht hb)] at hmn
    repeat' first | refine Go.seq ?_ | refine Go.region rfl ?_ | refine Ops.nil ?_ | refine Ops.val eF rfl rfl (by first | exact Want.no rfl | exact Want.tT rfl rfl rfl rfl | exact Want.fF rfl rfl rfl rfl) (by first | exact Hop.move rfl rfl | exact Hop.assign rfl rfl | exact Hop.pickT rfl rfl rfl | exact Hop.pickF rfl rfl rfl | exact Hop.lss rfl rfl rfl | exact Hop.gtr rfl rfl rfl | exact Hop.add rfl rfl rfl (by omega) | exact Hop.faR eF rfl rfl rfl rfl rfl rfl rfl | exact Hop.idx eF rfl rfl rfl rfl rfl rfl rfl (fun _ => rfl) (by omega) | exact Hop.ldR eF rfl rfl rfl rfl rfl | exact Hop.lenS eF rfl rfl rfl rfl rfl rfl rfl) ?_ | refine Ops.skip rfl rfl (by first | exact Want.fT rfl rfl rfl rfl | exact Want.tF rfl rfl rfl rfl | exact Want.und rfl rfl rfl rfl) ?_ | refine Ops.gP rfl rfl (fun _ => ?_) (fun _ => ?_) | refine Ops.call eF rfl rfl (by first | exact Want.no rfl | exact Want.tT rfl rfl rfl rfl | exact Want.fF rfl rfl rfl rfl) rfl rfl rfl rfl (IH (l.getD i default).kids (d + 1) (by omega) (by omega) (by omega) (by omega)) rfl ?_ | refine Go.condT rfl ?_ | refine Go.condFt rfl (by first | assumption | decide) ?_ | refine Go.condPt rfl (fun _ => ?_) (fun _ => ?_) | refine Go.unblk ?_ | refine Go.skip ?_ | refine Go.exit rfl ?_ | refine Go.retF rfl ?_ rfl
    all_goals try simp only [Int.toNat_natCast] at *
    · exact out (by rw [hmn, bif_t (.inl (by omega))]; decide)
    · exact out (by rw [hmn, bif_t (.inr (.inl (by omega)))]; decide)
    · exact out (by rw [hmn, bif_t (.inr (.inr (by omega)))]; decide)
    · rename_i c4 c5 c6
      rw [bif_f (by omega)] at hmn
      rw [bif_f (by omega), hmn] at he
      refine Go.to (ih (i + 1, n + 1 + mnL (d + 1) 0 (l.getD i default).kids) ⟨by show i + 1 ≤ _; omega, by show 0 ≤ n + 1 + _; omega, by show n + 1 + _ ≤ _; omega, he⟩ (by show l.length - (i + 1) < l.length - i; omega)) ⟨rfl, rfl, rfl, rfl, trivial⟩
mutual
/-- how deep clauses stand -/
noncomputable def dpC (n : Int) : Cl → Int
  | .mk _ _ _ _ kids => bif bd (0 < kids.length) then max n (1 + dpL 0 kids) else n
noncomputable def dpL (n : Int) : List Cl → Int
  | [] => n
  | c :: r => dpL (dpC n c) r
end
theorem dpC_eq (n : Int) (c : Cl) : dpC n c = bif bd (0 < c.kids.length) then max n (1 + dpL 0 c.kids) else n := by cases c; rfl
theorem dpL_drop {n : Int} {l : List Cl} {i : Nat} (h : i < l.length) : dpL n (l.drop i) = dpL (dpC n (l.getD i default)) (l.drop (i + 1)) := by
  rw [drop_at h]; rfl
mutual
theorem dpC_all : ∀ (c : Cl) (n : Int), 0 ≤ n → 0 ≤ dpC n c ∧ dpC n c ≤ n + c.cnt
  | .mk k nm a o kids, n, h0 => by
    have hk := dpL_all kids 0 (by omega)
    simp only [dpC, Cl.cnt]
    by_cases c1 : 0 < kids.length
    · rw [bif_t c1]; omega
    · rw [bif_f c1]; omega
theorem dpL_all : ∀ (l : List Cl) (n : Int), 0 ≤ n → 0 ≤ dpL n l ∧ dpL n l ≤ n + cntL l
  | [], n, h0 => by simp only [dpL, cntL]; omega
  | c :: r, n, h0 => by
    have hc := dpC_all c n h0
    have hr := dpL_all r (dpC n c) hc.1
    simp only [dpL, cntL]; omega
end
theorem cntL_app : ∀ a b : List Cl, cntL (a ++ b) = cntL a + cntL b
  | [], b => by simp [cntL]
  | c :: a, b => by
    have := cntL_app a b
    simp only [List.cons_append, cntL, this]; omega
theorem cntL_succ {l : List Cl} {i : Nat} (h : i < l.length) : cntL (l.take (i + 1)) = cntL (l.take i) + (l.getD i default).cnt := by
  rw [take_succ' h, cntL_app]; simp [cntL]
theorem k21 : ∀ (N : Nat) (l : List Cl), cntL l < N → cntL l ≤ 2000000 → KOk cF 21 [clsA l] (.int .i64 (dpL 0 l)) := by
  intro N
  induction N with
  | zero => intro l hN; omega
  | succ N IH =>
  intro l hN hb
  have hlen := cntL_len l
  rw [clsA_eq]
  refine KOk.of cF_ok eF.g Try.func21 rfl (Nat.le_of_ble_eq_true rfl) fun w F => ?_
  repeat' first | refine Go.seq ?_ | refine Go.region rfl ?_ | refine Ops.nil ?_ | refine Ops.val eF rfl rfl (by first | exact Want.no rfl | exact Want.tT rfl rfl rfl rfl | exact Want.fF rfl rfl rfl rfl) (by first | exact Hop.assign rfl rfl) ?_ | refine Go.block ?_
  refine Go.loop (fun q : Nat × Int => [(0, dsl 5 encF l), (3, .int .i64 q.2), (4, .int .i64 q.1)]) (fun _ => hS) (fun q => q.1 ≤ l.length ∧ 0 ≤ q.2 ∧ q.2 ≤ cntL (l.take q.1) ∧ dpL q.2 (l.drop q.1) = dpL 0 l) (fun q => l.length - q.1) (0, 0) ⟨Nat.zero_le _, Int.le_refl _, by simp [cntL], rfl⟩ ⟨rfl, rfl, rfl, trivial⟩ rfl (fun q hP ih => ?_)
  obtain ⟨i, n⟩ := q
  obtain ⟨hi, hn0, hn1, he⟩ := hP
  simp only at hi hn0 hn1 he ⊢
  by_cases c0 : (i : Int) < (l.length : Int)
  rotate_left
  · have ei : i = l.length := by omega
    subst ei
    rw [List.drop_length] at he
    repeat' first | refine Go.seq ?_ | refine Go.region rfl ?_ | refine Ops.nil ?_ | refine Ops.val eF rfl rfl (by first | exact Want.no rfl | exact Want.tT rfl rfl rfl rfl | exact Want.fF rfl rfl rfl rfl) (by first | exact Hop.move rfl rfl | exact Hop.assign rfl rfl | exact Hop.lss rfl rfl rfl | exact Hop.lenD eF rfl rfl rfl rfl rfl rfl rfl) ?_ | refine Go.condFt rfl (by first | assumption | decide) ?_ | refine Go.exit rfl ?_ | refine Go.retF rfl ?_ rfl
    all_goals (rw [← he]; rfl)
  have hlt : i < l.length := by omega
  have hc := cntL_at (l := l) (i := i) hlt
  have hc2 := cntL_succ hlt
  rw [Cl.cnt_eq] at hc2
  rw [dpL_drop hlt] at he
  have hd := dpC_all (l.getD i default) n hn0
  have hmn := dpC_eq n (l.getD i default)
  have hkid := dpL_all (l.getD i default).kids 0 (by omega)
  rw [Cl.cnt_eq] at hc hd
  repeat' first | refine Go.seq ?_ | refine Go.region rfl ?_ | refine Ops.nil ?_ | refine Ops.val eF rfl rfl (by first | exact Want.no rfl | exact Want.tT rfl rfl rfl rfl | exact Want.fF rfl rfl rfl rfl) (Hop.lenD (l := (l.getD i default).kids) (enc := encF) (z := 5) eF rfl rfl rfl rfl (congrArg some (clsA_eq (l.getD i default).kids)) rfl rfl) ?_ | refine Ops.val eF rfl rfl (by first | exact Want.no rfl | exact Want.tT rfl rfl rfl rfl | exact Want.fF rfl rfl rfl rfl) (by first | exact Hop.move rfl rfl | exact Hop.assign rfl rfl | exact Hop.lss rfl rfl rfl | exact Hop.gtr rfl rfl rfl | exact Hop.add rfl rfl rfl (by omega) | exact Hop.faR eF rfl rfl rfl rfl rfl rfl rfl | exact Hop.idx eF rfl rfl rfl rfl rfl rfl rfl (fun _ => rfl) (by omega) | exact Hop.ldR eF rfl rfl rfl rfl rfl | exact Hop.lenD eF rfl rfl rfl rfl rfl rfl rfl | exact Hop.max rfl rfl rfl rfl rfl) ?_ | refine Ops.call eF rfl rfl (by first | exact Want.no rfl | exact Want.tT rfl rfl rfl rfl | exact Want.fF rfl rfl rfl rfl) rfl rfl rfl rfl (IH (l.getD i default).kids (by omega) (by omega)) rfl ?_ | refine Go.condTt rfl (by first | assumption | decide) ?_ | refine Go.condPt rfl (fun _ => ?_) (fun _ => ?_) | refine Go.block ?_ | refine Go.unblk ?_ | refine Go.skip ?_
  all_goals try simp only [Int.toNat_natCast] at *
  · rw [bif_t (by omega)] at hmn
    rw [hmn] at he hd
    refine Go.to (ih (i + 1, _) ⟨by show i + 1 ≤ _; omega, hd.1, by show max n _ ≤ ((cntL (l.take (i + 1)) : Nat) : Int); omega, he⟩ (by show l.length - (i + 1) < l.length - i; omega)) ⟨rfl, rfl, rfl, trivial⟩
  · rw [bif_f (by omega)] at hmn
    rw [hmn] at he
    refine Go.to (ih (i + 1, n) ⟨by show i + 1 ≤ _; omega, hn0, by show n ≤ ((cntL (l.take (i + 1)) : Nat) : Int); omega, he⟩ (by show l.length - (i + 1) < l.length - i; omega)) ⟨rfl, rfl, rfl, trivial⟩
/-- whether there are more than one goes through -/
noncomputable def wideG (l : List Cl) : Int := bif bd (60 < mnL 0 0 l ∨ 6 < dpL 0 l) then 1 else 0
theorem k7 (l : List Cl) (hb : cntL l ≤ 2000000) : KOk cF 7 [clsA l] (.int .i64 (wideG l)) := by
  have k1 := k20 (cntL l + 1) l 0 (by omega) hb (by omega) (by omega)
  have k2 := k21 (cntL l + 1) l (by omega) hb
  refine KOk.of cF_ok eF.g Try.func7 rfl (Nat.le_of_ble_eq_true rfl) fun w F => ?_
  repeat' first | refine Go.seq ?_ | refine Go.region rfl ?_ | refine Ops.nil ?_ | refine Ops.val eF rfl rfl (by first | exact Want.no rfl | exact Want.tT rfl rfl rfl rfl | exact Want.fF rfl rfl rfl rfl) (by first | exact Hop.move rfl rfl | exact Hop.assign rfl rfl | exact Hop.gtr rfl rfl rfl) ?_ | refine Ops.call eF rfl rfl (by first | exact Want.no rfl | exact Want.tT rfl rfl rfl rfl | exact Want.fF rfl rfl rfl rfl) rfl rfl rfl rfl (k1) rfl ?_ | refine Ops.call eF rfl rfl (by first | exact Want.no rfl | exact Want.tT rfl rfl rfl rfl | exact Want.fF rfl rfl rfl rfl) rfl rfl rfl rfl (k2) rfl ?_ | refine Go.condPt rfl (fun _ => ?_) (fun _ => ?_) | refine Go.skip ?_ | refine Go.retF rfl ?_ rfl
  · rw [wideG, bif_t (.inl (by assumption))]; rfl
  · rw [wideG, bif_t (.inr (by assumption))]; rfl
  · rw [wideG, bif_f (by omega)]; rfl
theorem wide_out {l : List Cl} (h : wideG l = 0) : cntL l ≤ 2460 ∧ okL l ∧ l.length ≤ 60 := by
  have q : ¬ (60 < mnL 0 0 l ∨ 6 < dpL 0 l) := fun q => by rw [wideG, bif_t q] at h; cases h
  have := mnL_all l 0 0 (by omega) (by omega)
  have h2 := this.2.2 (by omega)
  have h3 := mnL_len l 0 0 (by omega) (by omega) (by omega)
  exact ⟨by omega, h2.2, by omega⟩
end Go.Px.Fh
end
/- FhN -/
section
set_option linter.unusedVariables false
set_option linter.unusedSimpArgs false
set_option maxHeartbeats 4000000
set_option maxRecDepth 20000
namespace Go.Px.Fh
open Go.Proofs Go.Px.Fx
attribute [local irreducible] Go.Px.KOk
noncomputable def encP2 (p : Cl × Bool) : List AV := [sA p.1.n, .int .i64 p.1.a.length, .bool (bd (p.2 = true))]
noncomputable def clA2 (l : List (Cl × Bool)) : AV := dsl 3 encP2 l
theorem clA_two (l : List (Cl × Bool)) : clA l = clA2 l := by
  unfold clA clA2
  congr 1
  funext p
  obtain ⟨c, b⟩ := p
  cases b <;> simp [encP, encP2, bd]
def alls (l : List (Cl × Bool)) : List Str := l.map fun p => p.1.n
def nots (l : List (Cl × Bool)) : List Str := (l.filter fun p => p.2).map fun p => p.1.n
theorem alls_succ {l : List (Cl × Bool)} {i : Nat} (h : i < l.length) : alls (l.take (i + 1)) = alls (l.take i) ++ [(l.getD i default).1.n] := by
  unfold alls
  rw [take_succ' h, List.map_append]; rfl
theorem nots_t {l : List (Cl × Bool)} {i : Nat} (h : i < l.length) (q : (l.getD i default).2 = true) : nots (l.take (i + 1)) = nots (l.take i) ++ [(l.getD i default).1.n] := by
  unfold nots
  rw [take_succ' h, List.filter_append, List.map_append, List.filter_cons, q]; rfl
theorem nots_f {l : List (Cl × Bool)} {i : Nat} (h : i < l.length) (q : ¬ (l.getD i default).2 = true) : nots (l.take (i + 1)) = nots (l.take i) := by
  have q : (l.getD i default).2 = false := by simpa using q
  unfold nots
  rw [take_succ' h, List.filter_append, List.map_append, List.filter_cons, q]
  exact List.append_nil _
theorem alls_len (l : List (Cl × Bool)) : (alls l).length = l.length := by simp [alls]
theorem nots_len (l : List (Cl × Bool)) : (nots l).length ≤ l.length := by
  unfold nots
  rw [List.length_map]; exact List.length_filter_le _ _
/-- a rule -/
def ruA (nm : Str) (av : List Str) (body : List Cl) : AV := .agg [sA nm, strsA av, clsA body]
theorem k9 (nm : Str) (av : List Str) (body : List Cl) (hb : cntL body ≤ 10000) : KOk cF 9 [ruA nm av body] (.tup [strsA (VarsG (alls (callsL false body))), strsA (VarsG (nots (callsL false body)))]) := by
  have hl := callsL_len false body
  have k1 := k11 (cntL body + 1) body false (by omega) (by omega)
  rw [clA_two] at k1
  generalize callsL false body = ps at *
  have ha := alls_len ps
  have hn := nots_len ps
  have ka := k24 (alls ps) (by omega)
  have kn := k24 (nots ps) (by omega)
  rw [← vars_eq] at ka kn
  refine KOk.of cF_ok eF.g Try.func9 rfl (Nat.le_of_ble_eq_true rfl) fun w F => ?_
  repeat' first | refine Go.seq ?_ | refine Go.region rfl ?_ | refine Ops.nil ?_ | refine Ops.val eF rfl rfl (by first | exact Want.no rfl | exact Want.tT rfl rfl rfl rfl | exact Want.fF rfl rfl rfl rfl) (by first | exact Hop.assign rfl rfl | exact Hop.faR eF rfl rfl rfl rfl rfl rfl rfl | exact Hop.ldR eF rfl rfl rfl rfl rfl) ?_ | refine Ops.call eF rfl rfl (by first | exact Want.no rfl | exact Want.tT rfl rfl rfl rfl | exact Want.fF rfl rfl rfl rfl) rfl rfl rfl rfl (k1) rfl ?_ | refine Ops.boxR eF rfl rfl (by first | exact Want.no rfl | exact Want.tT rfl rfl rfl rfl | exact Want.fF rfl rfl rfl rfl) rfl rfl rfl rfl ?_ | refine Go.block ?_
  refine Go.change (Chg.tokS 0 4 9 1 rfl rfl rfl) ?_
  refine Go.change (Chg.tokS 1 5 9 1 rfl rfl rfl) ?_
  refine Go.toHQ (N := 2) (bs := [.arr 9 1 0 [], .arr 9 1 0 []]) (L' := [(4, .own 0 0 1), (5, .own 1 0 1), (6, clA2 ps), (7, .int .i64 0)]) ?_ rfl eF.g ⟨rfl, rfl, rfl, rfl, trivial⟩ rfl rfl ⟨.inr rfl, .inr rfl, trivial⟩ ⟨trivial, trivial, trivial⟩ rfl rfl
  refine Go.loop (fun i : Nat => [(4, .own 0 (alls (ps.take i)).length 1), (5, .own 1 (nots (ps.take i)).length 1), (6, clA2 ps), (7, .int .i64 i)]) (fun i => hq 2 [.arr 9 1 (alls (ps.take i)).length ((alls (ps.take i)).flatMap Fx.encS), .arr 9 1 (nots (ps.take i)).length ((nots (ps.take i)).flatMap Fx.encS)]) (fun i => i ≤ ps.length) (fun i => ps.length - i) 0 (Nat.zero_le _) ⟨rfl, rfl, rfl, rfl, trivial⟩ rfl (fun i hi ih => ?_)
  have ha1 := alls_len (ps.take i)
  have hn1 := nots_len (ps.take i)
  rw [List.length_take] at ha1 hn1
  by_cases c0 : (i : Int) < (ps.length : Int)
  · have hlt : i < ps.length := by omega
    repeat' first | refine Go.seq ?_ | refine Go.region rfl ?_ | refine Ops.nil ?_ | refine Ops.val eF rfl rfl (by first | exact Want.no rfl | exact Want.tT rfl rfl rfl rfl | exact Want.fF rfl rfl rfl rfl) (by first | exact Hop.move rfl rfl | exact Hop.assign rfl rfl | exact Hop.lss rfl rfl rfl | exact Hop.add rfl rfl rfl (by omega) | exact Hop.faR eF rfl rfl rfl rfl rfl rfl rfl | exact Hop.idx eF rfl rfl rfl rfl rfl rfl rfl (fun _ => rfl) (by omega) | exact Hop.ldR eF rfl rfl rfl rfl rfl | exact Hop.lenD eF rfl rfl rfl rfl rfl rfl rfl) ?_ | refine Ops.data eF rfl rfl (by first | exact Want.no rfl | exact Want.tT rfl rfl rfl rfl | exact Want.fF rfl rfl rfl rfl) rfl (Hop.bslice eF rfl rfl rfl rfl rfl rfl rfl rfl rfl rfl rfl) rfl rfl ?_ | refine Ops.appendE eF rfl rfl (by first | exact Want.no rfl | exact Want.tT rfl rfl rfl rfl | exact Want.fF rfl rfl rfl rfl) rfl rfl rfl rfl rfl rfl rfl rfl rfl rfl rfl rfl rfl rfl rfl rfl (by repeat' first | exact trivial | refine And.intro ?_ ?_ | exact .inr trivial | exact .inr (ind_row rfl rfl) | exact .inr rfl | exact .inl rfl | exact .inr (hindL _ _)) rfl rfl rfl rfl rfl (by first | rfl | exact ones_flat (fun _ => rfl) _) (by omega) ?_ | refine Go.condTt rfl (by first | assumption | decide) ?_ | refine Go.condPt rfl (fun _ => ?_) (fun _ => ?_) | refine Go.block ?_ | refine Go.unblk ?_ | refine Go.skip ?_
    all_goals try simp only [Int.toNat_natCast] at *
    · have g := ih (i + 1) (by show i + 1 ≤ _; omega) (by show ps.length - (i + 1) < _; omega)
      simp only [alls_succ hlt, nots_t hlt (by assumption), List.length_cons, List.length_nil, Nat.zero_add, List.flatMap_cons, List.flatMap_nil, List.append_nil, List.length_append, List.flatMap_append] at g
      exact Go.toQ g rfl eF.g ⟨rfl, rfl, rfl, rfl, trivial⟩ rfl rfl ⟨.inr rfl, .inr rfl, trivial⟩ ⟨trivial, trivial, trivial⟩ rfl rfl
    · have g := ih (i + 1) (by show i + 1 ≤ _; omega) (by show ps.length - (i + 1) < _; omega)
      simp only [alls_succ hlt, nots_f hlt (by assumption), List.length_cons, List.length_nil, Nat.zero_add, List.flatMap_cons, List.flatMap_nil, List.append_nil, List.length_append, List.flatMap_append] at g
      exact Go.toQ g rfl eF.g ⟨rfl, rfl, rfl, rfl, trivial⟩ rfl rfl ⟨.inr rfl, .inr rfl, trivial⟩ ⟨trivial, trivial, trivial⟩ rfl rfl
  · have ei : i = ps.length := by omega
    subst ei
    rw [List.take_length]
    repeat' first | refine Go.seq ?_ | refine Go.region rfl ?_ | refine Ops.nil ?_ | refine Ops.frzMv eF 38 rfl rfl rfl (by first | exact Want.no rfl | exact Want.tT rfl rfl rfl rfl | exact Want.fF rfl rfl rfl rfl) (by first | exact Hop.move rfl rfl | exact Hop.assign rfl rfl) rfl (by repeat' first | exact trivial | refine And.intro ?_ ?_ | exact .inr trivial | exact .inr (ind_row rfl rfl) | exact .inr rfl | exact .inl rfl | exact .inr (hindL _ _)) rfl rfl rfl rfl ?_ | refine Ops.frzMv eF 40 rfl rfl rfl (by first | exact Want.no rfl | exact Want.tT rfl rfl rfl rfl | exact Want.fF rfl rfl rfl rfl) (by first | exact Hop.move rfl rfl | exact Hop.assign rfl rfl) rfl (by repeat' first | exact trivial | refine And.intro ?_ ?_ | exact .inr trivial | exact .inr (ind_row rfl rfl) | exact .inr rfl | exact .inl rfl | exact .inr (hindL _ _)) rfl rfl rfl rfl ?_ | refine Ops.val eF rfl rfl (by first | exact Want.no rfl | exact Want.tT rfl rfl rfl rfl | exact Want.fF rfl rfl rfl rfl) (by first | exact Hop.move rfl rfl | exact Hop.assign rfl rfl | exact Hop.lss rfl rfl rfl | exact Hop.lenD eF rfl rfl rfl rfl rfl rfl rfl) ?_ | refine Ops.call eF rfl rfl (by first | exact Want.no rfl | exact Want.tT rfl rfl rfl rfl | exact Want.fF rfl rfl rfl rfl) rfl rfl rfl rfl (ka) rfl ?_ | refine Ops.call eF rfl rfl (by first | exact Want.no rfl | exact Want.tT rfl rfl rfl rfl | exact Want.fF rfl rfl rfl rfl) rfl rfl rfl rfl (kn) rfl ?_ | refine Go.condFt rfl (by first | assumption | decide) ?_ | refine Go.exit rfl ?_ | refine Go.retF rfl ?_ rfl
    all_goals rfl
end Go.Px.Fh
end
