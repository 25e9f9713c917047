/- Parts of the proof in YthlbnmohaeeccaaVFin: FeY. -/
import Derived.Test.YthlbnmohaeeccaaVLb
import Derived.Test.YthlbnmohaeeccaaVLe
import Derived.Test.YthlbnmohaeeccaaVK4
set_option linter.unusedVariables false
set_option linter.unusedSimpArgs false
section
set_option maxHeartbeats 4000000
set_option maxRecDepth 20000
namespace Go.Px.Fe
open Go.Proofs Go.Px.Fs
attribute [local irreducible] Go.Px.KOk
def dB (d : Da) : Str := be 2 (keyD d).length ++ keyD d
def txB (x : Tx) : Str := be 8 x.t.toNat ++ be 4 x.l.length ++ x.l.flatMap dB
def feedB (l : List Tx) : Str := l.flatMap txB
theorem flat_succ {α : Type} [Inhabited α] (f : α → Str) {l : List α} {i : Nat} (h : i < l.length) : (l.take (i + 1)).flatMap f = (l.take i).flatMap f ++ f (l.getD i default) := by
 rw [take_succ' h, List.flatMap_append]; simp
theorem flat_le {α : Type} (f : α → Str) (l : List α) (i : Nat) : ((l.take i).flatMap f).length ≤ (l.flatMap f).length := by
 conv => rhs; rw [← List.take_append_drop i l, List.flatMap_append, List.length_append]
 omega
noncomputable def r10_0 : List Oper := ((drawn (Try.f10.body.getD .skip))[0]?).getD []
theorem dg10_0 : lvChk r10_0 2047 ([(0, [0, 1, 5])] :: [[(1, [1, 5]), (2, [0, 2, 5]), (32, [0, 1, 6])], [(3, [2, 5]), (6, [0, 3, 5]), (33, [1, 6]), (34, [0, 2, 6]), (96, [0, 1, 7])], [(7, [3, 5]), (14, [0, 5]), (35, [2, 6]), (38, [0, 3, 6]), (97, [1, 7]), (98, [0, 2, 7]), (224, [0, 1, 8])], [(15, [4, 5]), (39, [3, 6]), (46, [0, 6]), (99, [2, 7]), (102, [0, 3, 7]), (225, [1, 8]), (226, [0, 2, 8]), (480, [0, 1])], [(31, [5]), (47, [4, 6]), (103, [3, 7]), (110, [0, 7]), (227, [2, 8]), (230, [0, 3, 8]), (481, [1]), (482, [0, 2])], [(63, [6]), (111, [4, 7]), (231, [3, 8]), (238, [0, 8]), (483, [2]), (486, [0, 3])], [(127, [7]), (239, [4, 8]), (487, [3]), (494, [0])], [(255, [8]), (495, [4])], [(511, [9])], [(1023, [10])], [(2047, [])]]) = true := by kernel_rfl
theorem k10 (l : List Tx) (hl : l.length ≤ 1000000) (hd : ∀ i, (l.getD i default).l.length ≤ 1000000) (hs : ∀ i k, ((l.getD i default).l.getD k default).v.s.length ≤ 2000) (hB : (feedB l).length ≤ 300000) (hA : AllT l) : KOk cF 10 [txsA l] (.tup [bysA (feedB l), .int .i64 0]) := by
 have k1 : KOk cF 14 [txsA l] (.int .i64 0) := by
  have := k14 l hl hd (fun i k => Nat.le_trans (hs i k) (by decide))
  rwa [bd_of hA] at this
 refine KOk.of cF_ok eF.g Try.func10 rfl (Nat.le_of_ble_eq_true rfl) fun w F => ?_
 repeat' first | refine Go.seq ?_ | refine Go.region rfl ?_ | refine Ops.nil ?_ | refine Ops.val eF rfl rfl Zw (by first | exact Z1 | exact Z3 | exact Z6) ?_ | refine Ops.call eF rfl rfl Zw rfl rfl rfl rfl (k1) rfl ?_ | refine Go.condNt rfl (fun _ => ?_) (fun _ => ?_) | refine Go.block ?_ | refine Go.skip ?_ | refine Go.retF rfl ?_ rfl
 ·rename_i q; exact absurd rfl q
 refine Go.change (Chg.tokAt 0 5 5 1 rfl rfl) ?_
 refine Go.toHQ (N := 1) (bs := [.arr 5 1 0 []]) (L' := [(17, txsA l), (5, .own 0 0 1), (18, .int .i64 l.length), (19, .int .i64 0)]) ?_ rfl eF.g Zt rfl rfl ⟨.inr rfl, trivial⟩ Zl rfl rfl
 refine Go.loop (fun i : Nat => [(17, txsA l), (5, .own 0 (feedB (l.take i)).length 1), (18, .int .i64 l.length), (19, .int .i64 i)]) (fun i => hq 1 [.arr 5 1 (feedB (l.take i)).length ((feedB (l.take i)).flatMap encB)]) (fun i => i ≤ l.length) (fun i => l.length - i) 0 (Nat.zero_le _) Zt rfl (fun i hi ih => ?_)
 by_cases c0 : (i : Int) < (l.length : Int)
 ·have hlt : i < l.length := by omega
  have g := ih (i + 1) (by omega) (by omega)
  have hb1 : (feedB (l.take (i + 1))).length ≤ (feedB l).length := flat_le _ _ _
  have hA := hA i hlt
  have hd := hd i
  have hs := hs i
  rw [show feedB (l.take (i + 1)) = feedB (l.take i) ++ txB (l.getD i default) from flat_succ _ hlt] at g hb1
  repeat' first | refine Go.seq ?_ | refine Go.region rfl ?_ | refine Ops.nil ?_ | refine Ops.val eF rfl rfl Zw (by first | exact Z3 | exact Y24 | exact Z5) ?_ | refine Ops.rowAt eF 1 rfl rfl Zw rfl (Hop.alloc eF rfl rfl rfl) ?_ | refine Ops.unit eF rfl Zw (Hop.store eF rfl rfl rfl rfl rfl rfl) (ArrKeep.put rfl) ?_ | refine Go.condTt rfl Za ?_ | refine Go.block ?_ | refine Go.skip ?_
  simp only [Int.toNat_natCast]
  have ht : 1 ≤ (l.getD i default).t ∧ (l.getD i default).t ≤ 1099511627776 := ⟨hA.1.1, hA.1.2.1⟩
  have hda : ∀ k, k < (l.getD i default).l.length → DaP ((l.getD i default).l.getD k default) := fun k hk => (hA.2 k hk).2.1
  clear hA
  generalize hB0 : feedB (l.take i) = B at *
  generalize l.getD i default = x at *
  refine Go.toHQ (N := 2) (bs := [.arr 5 1 B.length (B.flatMap encB), .row ⟨53, 2, .leaf, encTx x, none⟩]) (L' := [(17, txsA l), (5, .own 0 B.length 1), (7, .ptr 1 0), (18, .int .i64 l.length), (19, .int .i64 i)]) ?_ rfl eF.g Zt rfl rfl Zg Zl rfl rfl
  have kp1 := m26 B.length (B.flatMap encB) x.t.toNat 8 (by omega) (by decide) (by simp only [List.length_append] at hb1; omega)
  have kp2 := m26 (B.length + 8) (B.flatMap encB ++ (be 8 x.t.toNat).flatMap encB) x.l.length 4 (by omega) (by decide) (by simp only [List.length_append] at hb1; omega)
  have et : ((x.t.toNat : Nat) : Int) = x.t := by omega
  rw [et] at kp1
  refine Go.dag 2047 hm (fun D => selL [(17, txsA l), (7, .ptr 1 0), (18, .int .i64 l.length), (19, .int .i64 i)] D [(11, 100, 5, .own 0 (B.length + 8 + 4) 1), (10, 100, 32, .own 0 (B.length + 8 + 4) 1), (9, 100, 31, .int .u64 x.l.length), (8, 100, 30, .int .i64 x.l.length), (7, 100, 29, dasA x.l), (6, 100, 28, .ptr 1 1), (5, 10, 27, .own 0 (B.length + 8) 1), (4, 100, 26, .int .u64 x.t), (3, 100, 25, .int .i64 x.t), (2, 100, 24, .ptr 1 0), (1, 5, 23, .own 0 B.length 1), (0, 5, 5, .own 0 B.length 1)]) (fun D => match bitB D 9 with | true => hq 2 [.arr 5 1 (B.length + 8 + 4) (B.flatMap encB ++ (be 8 x.t.toNat).flatMap encB ++ (be 4 x.l.length).flatMap encB), .row ⟨53, 2, .leaf, encTx x, none⟩] | false => match bitB D 4 with | true => hq 2 [.arr 5 1 (B.length + 8) (B.flatMap encB ++ (be 8 x.t.toNat).flatMap encB), .row ⟨53, 2, .leaf, encTx x, none⟩] | false => hq 2 [.arr 5 1 B.length (B.flatMap encB), .row ⟨53, 2, .leaf, encTx x, none⟩]) [0, 1, 5] [[(1, [1, 5]), (2, [0, 2, 5]), (32, [0, 1, 6])], [(3, [2, 5]), (6, [0, 3, 5]), (33, [1, 6]), (34, [0, 2, 6]), (96, [0, 1, 7])], [(7, [3, 5]), (14, [0, 5]), (35, [2, 6]), (38, [0, 3, 6]), (97, [1, 7]), (98, [0, 2, 7]), (224, [0, 1, 8])], [(15, [4, 5]), (39, [3, 6]), (46, [0, 6]), (99, [2, 7]), (102, [0, 3, 7]), (225, [1, 8]), (226, [0, 2, 8]), (480, [0, 1])], [(31, [5]), (47, [4, 6]), (103, [3, 7]), (110, [0, 7]), (227, [2, 8]), (230, [0, 3, 8]), (481, [1]), (482, [0, 2])], [(63, [6]), (111, [4, 7]), (231, [3, 8]), (238, [0, 8]), (483, [2]), (486, [0, 3])], [(127, [7]), (239, [4, 8]), (487, [3]), (494, [0])], [(255, [8]), (495, [4])], [(511, [9])], [(1023, [10])], [(2047, [])]] dg10_0 rfl (by repeat' first | exact trivial | refine ⟨rfl, ?_⟩) rfl ?_ ?_
  ·repeat' first | exact trivial | refine And.intro ?_ ?_ | refine Exists.intro _ (And.intro rfl ?_) | exact Ops.midE (by repeat' first | exact trivial | refine ⟨rfl, ?_⟩) | exact Ops.midQ eF.g rfl (by repeat' first | exact trivial | refine ⟨rfl, ?_⟩) rfl rfl (by repeat' first | exact trivial | refine And.intro ?_ ?_ | exact .inr rfl | exact .inl rfl) (by repeat' first | exact trivial | exact low_row rfl rfl | refine And.intro ?_ ?_) rfl rfl | refine Ops.val eF rfl rfl Zw (by first | exact Hop.addUs rfl rfl rfl (by omega) | exact Hop.addU rfl rfl rfl | exact Hop.subU rfl rfl rfl | exact Hop.mulU rfl rfl rfl | exact Hop.quoU rfl rfl rfl rfl (by omega) | exact Hop.remU rfl rfl rfl rfl (by omega) | exact Hop.xorT rfl rfl rfl (by omega) | exact Hop.orB rfl rfl rfl (by omega) (by omega) (by omega) | exact Hop.shl8 rfl rfl rfl (by omega) | exact Hop.shrN rfl rfl rfl (by omega) (by omega) | exact Hop.conv eF rfl rfl rfl rfl rfl (wr_u64 (by omega)) | exact Hop.convU64 eF rfl rfl rfl rfl rfl | exact Y20 | exact Hop.convI64 eF rfl rfl rfl rfl rfl (by omega) | exact Hop.convU8 eF rfl rfl rfl rfl rfl) ?_ | refine Ops.callM (v' := .own 0 _ 1) (ab := [.arr 5 1 _ _]) eF [0] 2 Zw rfl rfl rfl rfl (kp1) rfl (wk_eq rfl) rfl Zb Zo rfl rfl rfl rfl rfl rfl rfl ?_ | refine Ops.callM (v' := .own 0 _ 1) (ab := [.arr 5 1 _ _]) eF [0] 2 Zw rfl rfl rfl rfl (kp2) rfl (wk_eq rfl) rfl Zb Zo rfl rfl rfl rfl rfl rfl rfl ?_ | refine Ops.val eF rfl rfl Zw (by first | exact Z1 | exact Z4 | exact Z5 | exact Z6) ?_
  rw [txB] at g hb1
  simp only [List.length_append, be_len, List.flatMap_append, ← List.append_assoc, ← Nat.add_assoc] at g hb1
  generalize hC : B.flatMap encB ++ (be 8 x.t.toNat).flatMap encB ++ (be 4 x.l.length).flatMap encB = C at *
  refine Go.toHQ (N := 2) (bs := [.arr 5 1 (B.length + 8 + 4) C, .row ⟨53, 2, .leaf, encTx x, none⟩]) (L' := [(17, txsA l), (5, .own 0 (B.length + 8 + 4) 1), (7, .ptr 1 0), (18, .int .i64 l.length), (19, .int .i64 i)]) ?_ rfl eF.g Zt rfl rfl Zg Zl rfl rfl
  repeat' first | refine Go.seq ?_ | refine Go.region rfl ?_ | refine Ops.nil ?_ | refine Ops.val eF rfl rfl Zw (by first | exact Z1 | exact Z4 | exact Z5 | exact Z6) ?_ | refine Go.block ?_
  refine Go.loop (fun k : Nat => [(17, txsA l), (5, .own 0 (B.length + 8 + 4 + ((x.l.take k).flatMap dB).length) 1), (18, .int .i64 l.length), (19, .int .i64 i), (34, dasA x.l), (35, .int .i64 x.l.length), (36, .int .i64 k)]) (fun k => hq 2 [.arr 5 1 (B.length + 8 + 4 + ((x.l.take k).flatMap dB).length) (C ++ ((x.l.take k).flatMap dB).flatMap encB), .row ⟨53, 2, .leaf, encTx x, none⟩]) (fun k => k ≤ x.l.length) (fun k => x.l.length - k) 0 (Nat.zero_le _) Zt (by simp) (fun k hk ihk => ?_)
  by_cases c1 : (k : Int) < (x.l.length : Int)
  ·have hltk : k < x.l.length := by omega
   have gk := ihk (k + 1) (by omega) (by omega)
   have hbk := flat_le dB x.l (k + 1)
   rw [flat_succ dB hltk] at gk hbk
   have k2 := k27 (x.l.getD k default) (hda k hltk) (hs k)
   rw [show dB (x.l.getD k default) = be 2 (keyD (x.l.getD k default)).length ++ keyD (x.l.getD k default) from rfl] at gk hbk
   simp only [List.length_append, be_len, List.flatMap_append, ← List.append_assoc, ← Nat.add_assoc] at gk hbk
   generalize (x.l.take k).flatMap dB = V at *
   have k3 := m26 (B.length + 8 + 4 + V.length) (C ++ V.flatMap encB) (keyD (x.l.getD k default)).length 2 (by omega) (by decide) (by omega)
   repeat' first | refine Go.seq ?_ | refine Go.region rfl ?_ | refine Ops.nil ?_ | refine Ops.callM (v' := .own 0 _ 1) (ab := [.arr 5 1 _ _]) eF [0] 3 Zw rfl rfl rfl rfl (k3) rfl (wk_eq rfl) rfl Zb Zo rfl rfl rfl rfl rfl rfl rfl ?_ | refine Ops.val eF rfl rfl Zw (by first | exact Z1 | exact Z3 | exact Y14 | exact Hop.conv eF rfl rfl rfl rfl rfl (wr_u64 (by omega)) | exact Y24 | exact Z5 | exact Z6) ?_ | refine Ops.call eF rfl rfl Zw rfl rfl rfl rfl (k2) rfl ?_ | refine Ops.appendE eF rfl rfl Zw rfl rfl rfl rfl rfl rfl rfl rfl rfl rfl rfl rfl rfl rfl rfl rfl Zi rfl rfl rfl rfl rfl Zz (by omega) ?_ | refine Ops.rowAt eF 2 rfl rfl Zw rfl (Hop.alloc eF rfl rfl rfl) ?_ | refine Ops.unit eF rfl Zw (Hop.store eF rfl rfl rfl rfl rfl rfl) (ArrKeep.put rfl) ?_ | refine Go.condTt rfl Za ?_ | refine Go.block ?_ | refine Go.unblk ?_ | refine Go.skip ?_
   exact Go.toQ gk rfl eF.g Zt rfl rfl Zg Zl rfl rfl
  ·have ek : k = x.l.length := by omega
   subst ek
   rw [List.take_length] at *
   repeat' first | refine Go.seq ?_ | refine Go.region rfl ?_ | refine Ops.nil ?_ | refine Ops.val eF rfl rfl Zw (by first | exact Z1 | exact Z3 | exact Y14) ?_ | refine Go.condFt rfl Za ?_ | refine Go.unblk ?_ | refine Go.exit rfl ?_
   exact Go.toQ g rfl eF.g Zt rfl rfl ⟨.inr rfl, trivial⟩ Zl rfl rfl
 ·have ei : i = l.length := by omega
  subst ei
  rw [List.take_length] at *
  repeat' first | refine Go.seq ?_ | refine Go.region rfl ?_ | refine Ops.nil ?_ | refine Ops.frzMv eF 2 rfl rfl rfl Zw Z1 rfl Zi rfl rfl rfl rfl ?_ | refine Ops.val eF rfl rfl Zw (by first | exact Z1 | exact Z3) ?_ | refine Go.condFt rfl Za ?_ | refine Go.exit rfl ?_ | refine Go.retF rfl ?_ rfl
  rfl
end Go.Px.Fe
end
