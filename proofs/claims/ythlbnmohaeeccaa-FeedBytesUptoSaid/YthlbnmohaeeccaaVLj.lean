/- Parts of the proof in YthlbnmohaeeccaaVFin: FeAb, FeBl, FeAc. -/
import Derived.Test.YthlbnmohaeeccaaVLd
import Derived.Test.YthlbnmohaeeccaaVLf
import Derived.Test.YthlbnmohaeeccaaVLh
import Derived.Test.YthlbnmohaeeccaaVLi
import Derived.Test.YthlbnmohaeeccaaVK4
set_option linter.unusedVariables false
set_option linter.unusedSimpArgs false
section
set_option maxHeartbeats 4000000
set_option maxRecDepth 20000
namespace Go.Px.Fe
open Go.Proofs Go.Px.Fs
attribute [local irreducible] Go.Px.KOk
theorem kk29 (d : Da) (hd : DaP d) (hs : d.v.s.length ≤ 2000) : KOk cF 29 [.int .i64 1, .agg (encDa d)] (.tup [bysA (keyD d), .int .i64 0]) := by
 have k1 : KOk cF 24 [.agg (encDa d)] (.bool true) := by
  have := k16 d (by omega)
  rwa [bd_of hd] at this
 have k3 := k57 d
 have k4 := k50 d
 have k5 := k58 (ptsE d) (ptsE_7 d) (ptsE_va hd.2.2.1) (ptsE_len hs)
 refine KOk.of cF_ok eF.g Try.func29 rfl (Nat.le_of_ble_eq_true rfl) fun w F => ?_
 repeat' first | refine Go.seq ?_ | refine Go.region rfl ?_ | refine Ops.nil ?_ | refine Ops.val eF rfl rfl Zw (by first | exact Z1 | exact Z2 | exact Z3 | exact Z5) ?_ | refine Ops.gF rfl rfl Za ?_ | refine Ops.call eF rfl rfl Zw rfl rfl rfl rfl (k1) rfl ?_ | refine Ops.call eF rfl rfl Zw rfl rfl rfl rfl (k3) rfl ?_ | refine Ops.call eF rfl rfl Zw rfl rfl rfl rfl (k4) rfl ?_ | refine Ops.call eF rfl rfl Zw rfl rfl rfl rfl (k5) rfl ?_ | refine Ops.rowAt eF 0 rfl rfl Zw rfl (Hop.boxC rfl rfl rfl) ?_ | refine Go.condF rfl ?_ | refine Go.condFt rfl Za ?_ | refine Go.skip ?_ | refine Go.retF rfl ?_ rfl
 all_goals first
  | rfl
  | (exfalso; omega)
theorem kk29n (d : Da) (hd : ¬ DaP d) (hs : d.v.s.length ≤ 100000) : KOk cF 29 [.int .i64 1, .agg (encDa d)] (.tup [.nilsl, .int .i64 40]) := by
 have k1 : KOk cF 24 [.agg (encDa d)] (.bool false) := by
  have := k16 d (by omega)
  rwa [bd_no hd] at this
 refine KOk.of cF_ok eF.g Try.func29 rfl (Nat.le_of_ble_eq_true rfl) fun w F => ?_
 repeat' first | refine Go.seq ?_ | refine Go.region rfl ?_ | refine Ops.nil ?_ | refine Ops.val eF rfl rfl Zw (by first | exact Z1 | exact Z2 | exact Z3 | exact Z5) ?_ | refine Ops.skip rfl rfl Zn ?_ | refine Ops.gF rfl rfl Za ?_ | refine Ops.call eF rfl rfl Zw rfl rfl rfl rfl (k1) rfl ?_ | refine Ops.rowAt eF 0 rfl rfl Zw rfl (Hop.boxC rfl rfl rfl) ?_ | refine Go.condT rfl ?_ | refine Go.condFt rfl Za ?_ | refine Go.skip ?_ | refine Go.retF rfl ?_ rfl
 all_goals first
  | rfl
  | (exfalso; omega)
end Go.Px.Fe
end
section
set_option maxHeartbeats 4000000
set_option maxRecDepth 20000
namespace Go.Px.Fe
open Go.Proofs Go.Px.Fs
attribute [local irreducible] Go.Px.KOk
theorem i3 : ((0 : Int) ≤ 0 ∧ (0 : Int) < ((3 : Nat) : Int)) ∧ ((0 : Int) ≤ 0 + 1 ∧ (0 : Int) + 1 < ((3 : Nat) : Int)) ∧ ((0 : Int) ≤ 0 + 1 + 1 ∧ (0 : Int) + 1 + 1 < ((3 : Nat) : Int)) := by decide
def kindsR : List Bool := [false, false, true, false, false, false, false]
theorem k34n (b : Str) (hb : b.length ≤ 100000) (hn : readR (pPs kindsR b) = .tup [.nilsl, .int .i64 20]) : KOk cF 34 [.int .i64 1, bysA b] (.tup [.agg (encDa default), .int .i64 40]) := by
 have k1 := k62
 have k2 := k63 b kindsR hb (by decide)
 rw [hn, show kindsR = [bd (((([101, 97, 118] : Str).getD (Int.toNat 0) default).toNat : Int) = 118), bd (((([101, 97, 118] : Str).getD (Int.toNat (0 + 1)) default).toNat : Int) = 118), bd (((([101, 97, 118] : Str).getD (Int.toNat (0 + 1 + 1)) default).toNat : Int) = 118), false, false, false, false] by rw [bd_no (by decide), bd_no (by decide), bd_of (by decide)]; rfl] at k2
 refine KOk.of cF_ok eF.g Try.func34 rfl (Nat.le_of_ble_eq_true rfl) fun w F => ?_
 repeat' first | refine Go.seq ?_ | refine Go.region rfl ?_ | refine Ops.nil ?_ | refine Go.condNp rfl Za ?_ | refine Go.condNn rfl Za ?_ | refine Ops.gNp rfl rfl Za ?_ | refine Ops.gNn rfl rfl Za ?_ | refine Ops.makeOwn (n := 7) (z := 1) (enc := encBl') eF 1 false rfl rfl Zw rfl rfl rfl rfl rfl rfl rfl rfl (fun _ => rfl) rfl rfl rfl rfl (by decide) (by decide) Zi rfl rfl rfl rfl ?_ | refine Ops.val eF rfl rfl Zw (by first | exact Z1 | exact Z2 | exact Z3 | exact Y12 | exact Y13 | exact Y14 | exact Y20 | exact Hop.conv eF rfl rfl rfl rfl rfl (wr_u64 (by omega)) | exact Z4 | exact Y24 | exact Y25 | exact Y26 | exact Z5 | exact Y31 | exact Y36) ?_ | refine Ops.skip rfl rfl Zn ?_ | refine Ops.skipU rfl Zn ?_ | refine Ops.gT rfl rfl Za ?_ | refine Ops.gF rfl rfl Za ?_ | refine Ops.gP rfl rfl (fun _ => ?_) (fun _ => ?_) | refine Ops.gN rfl rfl (fun _ => ?_) (fun _ => ?_) | refine Ops.call eF rfl rfl Zw rfl rfl rfl rfl (k1) rfl ?_ | refine Ops.bytes eF rfl rfl Zw rfl rfl rfl rfl rfl rfl rfl rfl ?_ | refine Ops.bytes eF rfl rfl Zw rfl rfl rfl rfl rfl rfl rfl rfl ?_ | refine Ops.rowAt eF 0 rfl rfl Zw rfl (Hop.alloc eF rfl rfl rfl) ?_ | refine Ops.rowAt eF 1 rfl rfl Zw rfl (Hop.alloc eF rfl rfl rfl) ?_ | refine Ops.rowAt eF 2 rfl rfl Zw rfl (Hop.alloc eF rfl rfl rfl) ?_ | refine Ops.rowAt eF 3 rfl rfl Zw rfl (Hop.alloc eF rfl rfl rfl) ?_ | refine Ops.rowAt eF 4 rfl rfl Zw rfl (Hop.alloc eF rfl rfl rfl) ?_ | refine Ops.rowAt eF 5 rfl rfl Zw rfl (Hop.alloc eF rfl rfl rfl) ?_ | refine Ops.rowAt eF 6 rfl rfl Zw rfl (Hop.alloc eF rfl rfl rfl) ?_ | refine Ops.rowAt eF 7 rfl rfl Zw rfl (Hop.alloc eF rfl rfl rfl) ?_ | refine Ops.rowAt eF 8 rfl rfl Zw rfl (Hop.alloc eF rfl rfl rfl) ?_ | refine Ops.unit eF rfl Zw (Hop.store eF rfl rfl rfl rfl rfl rfl) (ArrKeep.put rfl) ?_ | refine Go.condT rfl ?_ | refine Go.condF rfl ?_ | refine Go.condTt rfl Za ?_ | refine Go.condFt rfl Za ?_ | refine Go.condPt rfl (fun _ => ?_) (fun _ => ?_) | refine Go.condNt rfl (fun _ => ?_) (fun _ => ?_) | refine Go.block ?_ | refine Go.unblk ?_ | refine Go.skip ?_ | refine Go.exit rfl ?_ | refine Go.retF rfl ?_ rfl | refine Go.endF rfl ?_ rfl | refine Go.retFm rfl rfl ?_ rfl | refine Go.endFm rfl rfl ?_ rfl | refine Go.retI rfl ?_ | refine Go.retM rfl rfl ?_ ?_ rfl | refine Go.endM rfl rfl ?_ ?_ rfl | refine Go.retY rfl rfl rfl ?_ | refine Go.endY rfl rfl rfl ?_ | refine (Ops.val eF rfl rfl Zw (by exact Hop.ldFG eF rfl rfl rfl rfl rfl rfl rfl (fun _ => rfl) (by omega)) ?_) | refine Go.endI rfl ?_
 repeat' first | refine Go.seq ?_ | refine Go.region rfl ?_ | refine Ops.nil ?_ | refine Go.condNp rfl Za ?_ | refine Go.condNn rfl Za ?_ | refine Ops.gNp rfl rfl Za ?_ | refine Ops.gNn rfl rfl Za ?_ | refine Ops.frzMv eF 38 rfl rfl rfl Zw Z1 rfl Zi rfl rfl rfl rfl ?_ | refine Go.loop1 ?_ | refine Go.round ?_ | refine Ops.val eF rfl rfl Zw (Hop.sidx eF rfl rfl rfl rfl rfl i3.1) ?_ | refine Ops.val eF rfl rfl Zw (Hop.sidx eF rfl rfl rfl rfl rfl i3.2.1) ?_ | refine Ops.val eF rfl rfl Zw (Hop.sidx eF rfl rfl rfl rfl rfl i3.2.2) ?_ | refine Ops.unit eF rfl Zw (Hop.stFG (z := 1) (enc := encBl') eF (bd _) rfl rfl rfl rfl rfl rfl rfl rfl (fun _ => rfl) rfl rfl (by decide)) (ArrKeep.arr rfl) ?_ | refine Ops.val eF rfl rfl Zw (by first | exact Z1 | exact Z2 | exact Z3 | exact Y12 | exact Y13 | exact Y14 | exact Y20 | exact Hop.conv eF rfl rfl rfl rfl rfl (wr_u64 (by omega)) | exact Z4 | exact Y24 | exact Y25 | exact Y26 | exact Z5 | exact Y31 | exact Y36) ?_ | refine Ops.skip rfl rfl Zn ?_ | refine Ops.skipU rfl Zn ?_ | refine Ops.gT rfl rfl Za ?_ | refine Ops.gF rfl rfl Za ?_ | refine Ops.gP rfl rfl (fun _ => ?_) (fun _ => ?_) | refine Ops.gN rfl rfl (fun _ => ?_) (fun _ => ?_) | refine Ops.bytes eF rfl rfl Zw rfl rfl rfl rfl rfl rfl rfl rfl ?_ | refine Ops.bytes eF rfl rfl Zw rfl rfl rfl rfl rfl rfl rfl rfl ?_ | refine Ops.rowAt eF 0 rfl rfl Zw rfl (Hop.alloc eF rfl rfl rfl) ?_ | refine Ops.rowAt eF 1 rfl rfl Zw rfl (Hop.alloc eF rfl rfl rfl) ?_ | refine Ops.rowAt eF 2 rfl rfl Zw rfl (Hop.alloc eF rfl rfl rfl) ?_ | refine Ops.rowAt eF 3 rfl rfl Zw rfl (Hop.alloc eF rfl rfl rfl) ?_ | refine Ops.rowAt eF 4 rfl rfl Zw rfl (Hop.alloc eF rfl rfl rfl) ?_ | refine Ops.rowAt eF 5 rfl rfl Zw rfl (Hop.alloc eF rfl rfl rfl) ?_ | refine Ops.rowAt eF 6 rfl rfl Zw rfl (Hop.alloc eF rfl rfl rfl) ?_ | refine Ops.rowAt eF 7 rfl rfl Zw rfl (Hop.alloc eF rfl rfl rfl) ?_ | refine Ops.rowAt eF 8 rfl rfl Zw rfl (Hop.alloc eF rfl rfl rfl) ?_ | refine Ops.unit eF rfl Zw (Hop.store eF rfl rfl rfl rfl rfl rfl) (ArrKeep.put rfl) ?_ | refine Go.condT rfl ?_ | refine Go.condF rfl ?_ | refine Go.condTt rfl Za ?_ | refine Go.condFt rfl Za ?_ | refine Go.condPt rfl (fun _ => ?_) (fun _ => ?_) | refine Go.condNt rfl (fun _ => ?_) (fun _ => ?_) | refine Go.block ?_ | refine Go.unblk ?_ | refine Go.skip ?_ | refine Go.exit rfl ?_ | refine Go.retF rfl ?_ rfl | refine Go.endF rfl ?_ rfl | refine Go.retFm rfl rfl ?_ rfl | refine Go.endFm rfl rfl ?_ rfl | refine Go.retI rfl ?_ | refine Go.retM rfl rfl ?_ ?_ rfl | refine Go.endM rfl rfl ?_ ?_ rfl | refine Go.retY rfl rfl rfl ?_ | refine Go.endY rfl rfl rfl ?_ | refine (Ops.val eF rfl rfl Zw (by exact Hop.ldFG eF rfl rfl rfl rfl rfl rfl rfl (fun _ => rfl) (by omega)) ?_) | refine Go.endI rfl ?_
 repeat' first | refine Go.seq ?_ | refine Go.region rfl ?_ | refine Ops.nil ?_ | refine Go.condNp rfl Za ?_ | refine Go.condNn rfl Za ?_ | refine Ops.gNp rfl rfl Za ?_ | refine Ops.gNn rfl rfl Za ?_ | refine Ops.val eF rfl rfl Zw (by first | exact Z1 | exact Z2 | exact Z3 | exact Y12 | exact Y13 | exact Y14 | exact Y20 | exact Hop.conv eF rfl rfl rfl rfl rfl (wr_u64 (by omega)) | exact Z4 | exact Y24 | exact Y25 | exact Y26 | exact Z5 | exact Y31 | exact Y36) ?_ | refine Ops.skip rfl rfl Zn ?_ | refine Ops.skipU rfl Zn ?_ | refine Ops.gT rfl rfl Za ?_ | refine Ops.gF rfl rfl Za ?_ | refine Ops.gP rfl rfl (fun _ => ?_) (fun _ => ?_) | refine Ops.gN rfl rfl (fun _ => ?_) (fun _ => ?_) | refine Ops.call eF rfl rfl Zw rfl rfl rfl rfl (k2) rfl ?_ | refine Ops.bytes eF rfl rfl Zw rfl rfl rfl rfl rfl rfl rfl rfl ?_ | refine Ops.bytes eF rfl rfl Zw rfl rfl rfl rfl rfl rfl rfl rfl ?_ | refine Ops.rowAt eF 0 rfl rfl Zw rfl (Hop.alloc eF rfl rfl rfl) ?_ | refine Ops.rowAt eF 1 rfl rfl Zw rfl (Hop.alloc eF rfl rfl rfl) ?_ | refine Ops.rowAt eF 2 rfl rfl Zw rfl (Hop.alloc eF rfl rfl rfl) ?_ | refine Ops.rowAt eF 3 rfl rfl Zw rfl (Hop.alloc eF rfl rfl rfl) ?_ | refine Ops.rowAt eF 4 rfl rfl Zw rfl (Hop.alloc eF rfl rfl rfl) ?_ | refine Ops.rowAt eF 5 rfl rfl Zw rfl (Hop.alloc eF rfl rfl rfl) ?_ | refine Ops.rowAt eF 6 rfl rfl Zw rfl (Hop.alloc eF rfl rfl rfl) ?_ | refine Ops.rowAt eF 7 rfl rfl Zw rfl (Hop.alloc eF rfl rfl rfl) ?_ | refine Ops.rowAt eF 8 rfl rfl Zw rfl (Hop.alloc eF rfl rfl rfl) ?_ | refine Ops.unit eF rfl Zw (Hop.store eF rfl rfl rfl rfl rfl rfl) (ArrKeep.put rfl) ?_ | refine Go.condT rfl ?_ | refine Go.condF rfl ?_ | refine Go.condTt rfl Za ?_ | refine Go.condFt rfl Za ?_ | refine Go.condPt rfl (fun _ => ?_) (fun _ => ?_) | refine Go.condNt rfl (fun _ => ?_) (fun _ => ?_) | refine Go.block ?_ | refine Go.unblk ?_ | refine Go.skip ?_ | refine Go.exit rfl ?_ | refine Go.retF rfl ?_ rfl | refine Go.endF rfl ?_ rfl | refine Go.retFm rfl rfl ?_ rfl | refine Go.endFm rfl rfl ?_ rfl | refine Go.retI rfl ?_ | refine Go.retM rfl rfl ?_ ?_ rfl | refine Go.endM rfl rfl ?_ ?_ rfl | refine Go.retY rfl rfl rfl ?_ | refine Go.endY rfl rfl rfl ?_ | refine (Ops.val eF rfl rfl Zw (by exact Hop.ldFG eF rfl rfl rfl rfl rfl rfl rfl (fun _ => rfl) (by omega)) ?_) | refine Go.endI rfl ?_
 exact Zr
end Go.Px.Fe
end
section
set_option maxHeartbeats 4000000
set_option maxRecDepth 20000
namespace Go.Px.Fe
open Go.Proofs Go.Px.Fs
attribute [local irreducible] Go.Px.KOk
theorem k11 (l : List Tx) (hl : l.length ≤ 1000000) (hd : ∀ i, (l.getD i default).l.length ≤ 1000000) (hs : ∀ i k, ((l.getD i default).l.getD k default).v.s.length ≤ 2000) (hB : (feedB l).length ≤ 300000) (hA : AllT l) : KOk cF 11 [txsA l] (.tup [bysA (feedB l), .int .i64 0]) := by
 have k1 : KOk cF 8 [txsA l] (.bool true) := by
  have := k8 l hl hd (fun i k => Nat.le_trans (hs i k) (by decide))
  rwa [bd_of hA] at this
 refine KOk.of cF_ok eF.g Try.func11 rfl (Nat.le_of_ble_eq_true rfl) fun w F => ?_
 repeat' first | refine Go.seq ?_ | refine Go.region rfl ?_ | refine Ops.nil ?_ | refine Ops.val eF rfl rfl Zw (by first | exact Z1 | exact Z2) ?_ | refine Ops.call eF rfl rfl Zw rfl rfl rfl rfl (k1) rfl ?_ | refine Go.condF rfl ?_ | refine Go.block ?_ | refine Go.skip ?_
 refine Go.change (Chg.tokAt 0 5 5 1 rfl rfl) ?_
 refine Go.toHQ (N := 1) (bs := [.arr 5 1 0 []]) (L' := [(0, txsA l), (5, .own 0 0 1), (6, .int .i64 0)]) ?_ rfl eF.g Zt rfl rfl ⟨.inr rfl, trivial⟩ Zl rfl rfl
 refine Go.loop (fun i : Nat => [(0, txsA l), (5, .own 0 (feedB (l.take i)).length 1), (6, .int .i64 i)]) (fun i => hq 1 [.arr 5 1 (feedB (l.take i)).length ((feedB (l.take i)).flatMap encB)]) (fun i => i ≤ l.length) (fun i => l.length - i) 0 (Nat.zero_le _) Zt rfl (fun i hi ih => ?_)
 by_cases c0 : (i : Int) < (l.length : Int)
 ·have hlt : i < l.length := by omega
  have g := ih (i + 1) (by omega) (by omega)
  have hb1 : (feedB (l.take (i + 1))).length ≤ (feedB l).length := flat_le _ _ _
  have hA := hA i hlt
  have hd := hd i
  have hs := hs i
  rw [show feedB (l.take (i + 1)) = feedB (l.take i) ++ txB (l.getD i default) from flat_succ _ hlt] at g hb1
  have ht : 1 ≤ (l.getD i default).t ∧ (l.getD i default).t ≤ 1099511627776 := ⟨hA.1.1, hA.1.2.1⟩
  have hda : ∀ k, k < (l.getD i default).l.length → DaP ((l.getD i default).l.getD k default) := fun k hk => (hA.2 k hk).2.1
  clear hA
  generalize hB0 : feedB (l.take i) = B at *
  rw [txB] at g hb1
  simp only [List.length_append, be_len, List.flatMap_append, ← List.append_assoc, ← Nat.add_assoc] at g hb1
  have kp1 : KOk cF 28 [.int .i64 8, .int .i64 (l.getD (i : Int).toNat default).t] (bysA (be 8 (l.getD i default).t.toNat)) := by
   have := k28 8 (l.getD i default).t.toNat (by decide) (by omega)
   rwa [show (((l.getD i default).t.toNat : Nat) : Int) = (l.getD (i : Int).toNat default).t by rw [Int.toNat_natCast]; omega] at this
  have kp2 : KOk cF 28 [.int .i64 4, .int .i64 ((l.getD (i : Int).toNat default).l.length : Nat)] (bysA (be 4 (l.getD i default).l.length)) := k28 4 (l.getD i default).l.length (by decide) (by omega)
  have hb8 := be_len 8 (l.getD i default).t.toNat
  have hb4 := be_len 4 (l.getD i default).l.length
  repeat' first | refine Go.seq ?_ | refine Go.region rfl ?_ | refine Ops.nil ?_ | refine Ops.val eF rfl rfl Zw (by first | exact Z1 | exact Z3 | exact Z4 | exact Y24 | exact Z5 | exact Z6) ?_ | refine Ops.call eF rfl rfl Zw rfl rfl rfl rfl (kp1) rfl ?_ | refine Ops.call eF rfl rfl Zw rfl rfl rfl rfl (kp2) rfl ?_ | refine Ops.appendE eF rfl rfl Zw rfl rfl rfl rfl rfl rfl rfl rfl rfl rfl rfl rfl rfl rfl rfl rfl Zi rfl rfl rfl rfl rfl Zz (by omega) ?_ | refine Go.condTt rfl Za ?_ | refine Go.block ?_ | refine Go.skip ?_
  generalize hC : B.flatMap encB ++ (be 8 (l.getD i default).t.toNat).flatMap encB ++ (be 4 (l.getD i default).l.length).flatMap encB = C at *
  refine Go.toHQ (N := 1) (bs := [.arr 5 1 (B.length + 8 + 4) C]) (L' := [(0, txsA l), (5, .own 0 (B.length + 8 + 4) 1), (6, .int .i64 i), (7, .int .i64 0)]) ?_ rfl eF.g Zt rfl rfl ⟨.inr (by subst hC; rfl), trivial⟩ Zl rfl rfl
  refine Go.loop (fun k : Nat => [(0, txsA l), (5, .own 0 (B.length + 8 + 4 + (((l.getD i default).l.take k).flatMap dB).length) 1), (6, .int .i64 i), (7, .int .i64 k)]) (fun k => hq 1 [.arr 5 1 (B.length + 8 + 4 + (((l.getD i default).l.take k).flatMap dB).length) (C ++ (((l.getD i default).l.take k).flatMap dB).flatMap encB)]) (fun k => k ≤ (l.getD i default).l.length) (fun k => (l.getD i default).l.length - k) 0 (Nat.zero_le _) Zt (by simp) (fun k hk ihk => ?_)
  by_cases c1 : (k : Int) < ((l.getD (i : Int).toNat default).l.length : Int)
  ·have hltk : k < (l.getD i default).l.length := by rw [Int.toNat_natCast] at c1; omega
   have gk := ihk (k + 1) (by omega) (by omega)
   have hbk := flat_le dB (l.getD i default).l (k + 1)
   rw [flat_succ dB hltk] at gk hbk
   have k2 : KOk cF 29 [.int .i64 1, .agg (encDa ((l.getD (i : Int).toNat default).l.getD (k : Int).toNat default))] (.tup [bysA (keyD ((l.getD i default).l.getD k default)), .int .i64 0]) := kk29 ((l.getD i default).l.getD k default) (hda k hltk) (hs k)
   rw [show dB ((l.getD i default).l.getD k default) = be 2 (keyD ((l.getD i default).l.getD k default)).length ++ keyD ((l.getD i default).l.getD k default) from rfl] at gk hbk
   simp only [List.length_append, be_len, List.flatMap_append, ← List.append_assoc, ← Nat.add_assoc] at gk hbk
   generalize ((l.getD i default).l.take k).flatMap dB = V at *
   have hb2 := be_len 2 (keyD ((l.getD i default).l.getD k default)).length
   have k3 : KOk cF 28 [.int .i64 2, .int .i64 ((keyD ((l.getD i default).l.getD k default)).length : Nat)] (bysA (be 2 (keyD ((l.getD i default).l.getD k default)).length)) := k28 2 _ (by decide) (by omega)
   have hkx : ((i : Int) < (l.length : Int)) := c0
   repeat' first | refine Go.seq ?_ | refine Go.region rfl ?_ | refine Ops.nil ?_ | refine Ops.val eF rfl rfl Zw (by first | exact Z1 | exact Z3 | exact Y14 | exact Z4 | exact Y24 | exact Z5 | exact Z6) ?_ | refine Ops.call eF rfl rfl Zw rfl rfl rfl rfl (k2) rfl ?_ | refine Ops.call eF rfl rfl Zw rfl rfl rfl rfl (k3) rfl ?_ | refine Ops.appendE eF rfl rfl Zw rfl rfl rfl rfl rfl rfl rfl rfl rfl rfl rfl rfl rfl rfl rfl rfl Zi rfl rfl rfl rfl rfl Zz (by omega) ?_ | refine Go.condTt rfl Za ?_ | refine Go.block ?_ | refine Go.unblk ?_ | refine Go.skip ?_
   try simp only [Int.toNat_natCast]
   exact Go.toQ gk rfl eF.g Zt rfl rfl ⟨.inr rfl, trivial⟩ Zl rfl rfl
  ·have ek : k = (l.getD i default).l.length := by rw [Int.toNat_natCast] at c1; omega
   subst ek
   rw [List.take_length] at *
   repeat' first | refine Go.seq ?_ | refine Go.region rfl ?_ | refine Ops.nil ?_ | refine Ops.val eF rfl rfl Zw (by first | exact Z1 | exact Z3 | exact Y14 | exact Z4 | exact Y24 | exact Z5 | exact Z6) ?_ | refine Go.condFt rfl Za ?_ | refine Go.unblk ?_ | refine Go.exit rfl ?_
   exact Go.toQ g rfl eF.g Zt rfl rfl ⟨.inr rfl, trivial⟩ Zl rfl rfl
 ·have ei : i = l.length := by omega
  subst ei
  rw [List.take_length] at *
  repeat' first | refine Go.seq ?_ | refine Go.region rfl ?_ | refine Ops.nil ?_ | refine Ops.frzMv eF 2 rfl rfl rfl Zw Z1 rfl Zi rfl rfl rfl rfl ?_ | refine Ops.val eF rfl rfl Zw (by first | exact Z1 | exact Z3 | exact Z6) ?_ | refine Go.condFt rfl Za ?_ | refine Go.exit rfl ?_ | refine Go.retF rfl ?_ rfl
  rfl
end Go.Px.Fe
end
