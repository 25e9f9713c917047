/- Parts of the proof in YthlbnmohaeeccaaVFin: FeCj, FeRw. -/
import Derived.Test.YthlbnmohaeeccaaVLg
import Derived.Test.YthlbnmohaeeccaaVLi
import Derived.Test.YthlbnmohaeeccaaVLm
import Derived.Test.YthlbnmohaeeccaaVK4
import Derived.ProofKit
import Derived.OpenShut
import Derived.JoinedCond
set_option linter.unusedVariables false
set_option linter.unusedSimpArgs false
section
set_option maxHeartbeats 4000000
set_option maxRecDepth 200000
namespace Go.Px.Fe
open Go.Proofs Go.Px.Fs
attribute [local irreducible] Go.Px.KOk
theorem keyD_le (d : Da) : (keyD d).length ≤ 2 * d.v.s.length + 63 := by
 have h (p : Pt) := keyP_len p
 have e : keyD d = keyP (nmP d.e) ++ (keyP (nmP d.a) ++ (keyP (sdP d.v) ++ (keyP (nmP d.t) ++ (keyP (nmP (addN d)) ++ (keyP (nmP d.fr) ++ (keyP (nmP d.to) ++ [])))))) := rfl
 have n (x : Int) : (keyP (nmP x)).length ≤ 9 := h (nmP x)
 have s : (keyP (sdP d.v)).length ≤ 2 * d.v.s.length + 9 := h (sdP d.v)
 have n1 := n d.e; have n2 := n d.a; have n3 := n d.t; have n4 := n (addN d); have n5 := n d.fr; have n6 := n d.to
 rw [e]
 simp only [List.length_append, List.length_nil]
 omega
theorem dBs_le : ∀ l : List Da, (l.flatMap dB).length ≤ 4 * sumD l
 | [] => by simp [sumD]
 | d :: l => by
  have ih := dBs_le l
  have hk := keyD_le d
  unfold sumD at *
  simp only [List.flatMap_cons, List.length_append, List.map_cons, List.sum_cons, dB, be_len]
  omega
theorem feedB_le : ∀ l : List Tx, (feedB l).length ≤ 12 * l.length + 4 * sumD (allD l)
 | [] => by simp [feedB]
 | x :: l => by
  have ih := feedB_le l
  have hd := dBs_le x.l
  have e : sumD (allD (x :: l)) = sumD x.l + sumD (allD l) := by
   show sumD (x.l ++ allD l) = _
   rw [sumD_app]
  have e2 : (feedB (x :: l)).length = 8 + 4 + (x.l.flatMap dB).length + (feedB l).length := by
   show (txB x ++ feedB l).length = _
   simp only [List.length_append, txB, be_len]
  rw [e, e2, List.length_cons]
  omega
theorem sum_s : ∀ (l : List Da) (k : Nat), (l.getD k default).v.s.length ≤ sumD l
 | [], k => by rw [List.getD_nil]; exact Nat.zero_le _
 | d :: l, 0 => by unfold sumD; simp only [List.map_cons, List.sum_cons, List.getD_cons_zero]; omega
 | d :: l, k + 1 => by
  have := sum_s l k
  unfold sumD at *
  simp only [List.map_cons, List.sum_cons, List.getD_cons_succ]; omega
theorem small_of {l : List Tx} (h : ¬ GreatT l) : l.length ≤ 60 ∧ (∀ i, (l.getD i default).l.length ≤ 60) ∧ (∀ i k, ((l.getD i default).l.getD k default).v.s.length ≤ 4000) ∧ (feedB l).length ≤ 20000 := by
 have h1 : ¬ 60 < l.length := fun q => h (.inl q)
 have h2 : ∀ i, i < l.length → ¬ (60 < (l.getD i default).l.length ∨ 4000 < sumD (l.getD i default).l) := fun i hi q => h (.inr (.inl ⟨i, hi, q⟩))
 have h3 : ¬ 4000 < sumD (allD l) := fun q => h (.inr (.inr q))
 have hD : ∀ i, ¬ i < l.length → l.getD i default = default := fun i hi => by rw [List.getD_eq_getElem?_getD, List.getElem?_eq_none (by omega)]; rfl
 refine ⟨by omega, fun i => ?_, fun i k => ?_, ?_⟩
 ·by_cases hi : i < l.length
  ·have := h2 i hi; omega
  ·rw [hD i hi]; exact Nat.zero_le _
 ·by_cases hi : i < l.length
  ·have := h2 i hi
   have := sum_s (l.getD i default).l k
   omega
  ·rw [hD i hi]; exact Nat.zero_le _
 ·have := feedB_le l
  omega
theorem all_s {l : List Tx} (h : AllT l) (i k : Nat) : ((l.getD i default).l.getD k default).v.s.length ≤ 2000 := by
 rcases getD_or (l := l) (d := default) i with e | e
 ·rw [e]; exact Nat.zero_le _
 ·rcases getD_or (l := (l.getD i default).l) (d := default) k with e2 | e2
  ·rw [e2]; exact Nat.zero_le _
  ·exact Nat.le_trans (VaP_s ((allT_mem h e).2.2 _ e2).2.2.1) (by decide)
theorem k10n' (l : List Tx) (hl : l.length ≤ 1000000) (hd : ∀ i, (l.getD i default).l.length ≤ 1000000) (hs : ∀ i k, ((l.getD i default).l.getD k default).v.s.length ≤ 100000) (hA : ¬ AllT l) : KOk cF 10 [txsA l] (.tup [.nilsl, .int .i64 270]) := by
 have k1 : KOk cF 14 [txsA l] (.int .i64 270) := by
  have := k14 l hl hd hs
  rwa [bd_no hA] at this
 refine KOk.of cF_ok eF.g Try.func10 rfl (Nat.le_of_ble_eq_true rfl) fun w F => ?_
 repeat' first | refine Go.seq ?_ | refine Go.region rfl ?_ | refine Ops.nil ?_ | refine Ops.val eF rfl rfl Zw (by first | exact Z1 | exact Z2 | exact Z3 | exact Y13 | exact Y14 | exact Y20 | exact Hop.conv eF rfl rfl rfl rfl rfl (wr_u64 (by omega)) | exact Z4 | exact Y24 | exact Y25 | exact Z5 | exact Y31 | exact Z6) ?_ | refine Ops.call eF rfl rfl Zw rfl rfl rfl rfl (k1) rfl ?_ | refine Ops.bytes eF rfl rfl Zw rfl rfl rfl rfl rfl rfl rfl rfl ?_ | refine Ops.bytes eF rfl rfl Zw rfl rfl rfl rfl rfl rfl rfl rfl ?_ | refine Ops.clone eF rfl rfl Zw rfl rfl rfl rfl rfl rfl rfl rfl rfl rfl rfl rfl rfl rfl rfl rfl rfl (dats_flat (fun _ => rfl) _) (flat_len (fun _ => rfl) _) (by omega) (by omega) ?_ | refine Ops.appendE eF rfl rfl Zw rfl rfl rfl rfl rfl rfl rfl rfl rfl rfl rfl rfl rfl rfl rfl rfl Zi rfl rfl rfl rfl rfl Zz (by omega) ?_ | refine Ops.appendNAt eF 0 rfl rfl rfl (fun _ => by first | exact Want.no rfl | exact Want.tT rfl rfl rfl rfl | exact Want.fF rfl rfl rfl rfl) rfl rfl rfl rfl rfl rfl (fun _ => rfl) rfl rfl rfl rfl rfl rfl rfl rfl Zi rfl rfl rfl rfl rfl Zz (by omega) ?_ | refine Ops.appendNAt eF 1 rfl rfl rfl (fun _ => by first | exact Want.no rfl | exact Want.tT rfl rfl rfl rfl | exact Want.fF rfl rfl rfl rfl) rfl rfl rfl rfl rfl rfl (fun _ => rfl) rfl rfl rfl rfl rfl rfl rfl rfl Zi rfl rfl rfl rfl rfl Zz (by omega) ?_ | refine Ops.appendNAt eF 2 rfl rfl rfl (fun _ => by first | exact Want.no rfl | exact Want.tT rfl rfl rfl rfl | exact Want.fF rfl rfl rfl rfl) rfl rfl rfl rfl rfl rfl (fun _ => rfl) rfl rfl rfl rfl rfl rfl rfl rfl Zi rfl rfl rfl rfl rfl Zz (by omega) ?_ | refine Ops.appendNAt eF 3 rfl rfl rfl (fun _ => by first | exact Want.no rfl | exact Want.tT rfl rfl rfl rfl | exact Want.fF rfl rfl rfl rfl) rfl rfl rfl rfl rfl rfl (fun _ => rfl) rfl rfl rfl rfl rfl rfl rfl rfl Zi rfl rfl rfl rfl rfl Zz (by omega) ?_ | refine Ops.appendNAt eF 4 rfl rfl rfl (fun _ => by first | exact Want.no rfl | exact Want.tT rfl rfl rfl rfl | exact Want.fF rfl rfl rfl rfl) rfl rfl rfl rfl rfl rfl (fun _ => rfl) rfl rfl rfl rfl rfl rfl rfl rfl Zi rfl rfl rfl rfl rfl Zz (by omega) ?_ | refine Ops.appendNAt eF 5 rfl rfl rfl (fun _ => by first | exact Want.no rfl | exact Want.tT rfl rfl rfl rfl | exact Want.fF rfl rfl rfl rfl) rfl rfl rfl rfl rfl rfl (fun _ => rfl) rfl rfl rfl rfl rfl rfl rfl rfl Zi rfl rfl rfl rfl rfl Zz (by omega) ?_ | refine Ops.appendNAt eF 6 rfl rfl rfl (fun _ => by first | exact Want.no rfl | exact Want.tT rfl rfl rfl rfl | exact Want.fF rfl rfl rfl rfl) rfl rfl rfl rfl rfl rfl (fun _ => rfl) rfl rfl rfl rfl rfl rfl rfl rfl Zi rfl rfl rfl rfl rfl Zz (by omega) ?_ | refine Ops.appendNAt eF 7 rfl rfl rfl (fun _ => by first | exact Want.no rfl | exact Want.tT rfl rfl rfl rfl | exact Want.fF rfl rfl rfl rfl) rfl rfl rfl rfl rfl rfl (fun _ => rfl) rfl rfl rfl rfl rfl rfl rfl rfl Zi rfl rfl rfl rfl rfl Zz (by omega) ?_ | refine Ops.appendNAt eF 8 rfl rfl rfl (fun _ => by first | exact Want.no rfl | exact Want.tT rfl rfl rfl rfl | exact Want.fF rfl rfl rfl rfl) rfl rfl rfl rfl rfl rfl (fun _ => rfl) rfl rfl rfl rfl rfl rfl rfl rfl Zi rfl rfl rfl rfl rfl Zz (by omega) ?_ | refine Ops.rowAt eF 0 rfl rfl Zw rfl (Hop.alloc eF rfl rfl rfl) ?_ | refine Ops.rowAt eF 1 rfl rfl Zw rfl (Hop.alloc eF rfl rfl rfl) ?_ | refine Ops.rowAt eF 2 rfl rfl Zw rfl (Hop.alloc eF rfl rfl rfl) ?_ | refine Ops.rowAt eF 3 rfl rfl Zw rfl (Hop.alloc eF rfl rfl rfl) ?_ | refine Ops.rowAt eF 4 rfl rfl Zw rfl (Hop.alloc eF rfl rfl rfl) ?_ | refine Ops.rowAt eF 5 rfl rfl Zw rfl (Hop.alloc eF rfl rfl rfl) ?_ | refine Ops.rowAt eF 6 rfl rfl Zw rfl (Hop.alloc eF rfl rfl rfl) ?_ | refine Ops.rowAt eF 7 rfl rfl Zw rfl (Hop.alloc eF rfl rfl rfl) ?_ | refine Ops.rowAt eF 8 rfl rfl Zw rfl (Hop.alloc eF rfl rfl rfl) ?_ | refine Ops.unit eF rfl Zw (Hop.store eF rfl rfl rfl rfl rfl rfl) (ArrKeep.put rfl) ?_ | refine Go.condT rfl ?_ | refine Go.condF rfl ?_ | refine Go.condTt rfl Za ?_ | refine Go.condFt rfl Za ?_ | refine Go.condPt rfl (fun _ => ?_) (fun _ => ?_) | refine Go.condNt rfl (fun _ => ?_) (fun _ => ?_) | refine Go.block ?_ | refine Go.unblk ?_ | refine Go.skip ?_ | refine Go.scope ?_ | refine Go.label ?_ | refine Go.exit rfl ?_ | refine Go.retF rfl ?_ rfl | refine Go.endF rfl ?_ rfl | refine Go.retFm rfl rfl ?_ rfl | refine Go.endFm rfl rfl ?_ rfl | refine Go.retI rfl ?_ | refine Go.retM rfl rfl ?_ ?_ rfl | refine Go.endM rfl rfl ?_ ?_ rfl | refine Go.retY rfl rfl rfl ?_ | refine Go.endY rfl rfl rfl ?_ | refine (Ops.val eF rfl rfl Zw (by exact Hop.ldFG eF rfl rfl rfl rfl rfl rfl rfl (fun _ => rfl) (by omega)) ?_) | refine Go.endI rfl ?_
 ·rfl
 ·rename_i q; exact absurd q (by decide)
end Go.Px.Fe
end
section
namespace Go.Proofs.Ythlbnmohaeeccaa.feedIn
open Go.ChangeShapes Go.WideShapes Go.ChangeAt Go.RowKit
set_option maxRecDepth 100000
theorem own : ownKnob Try.prog.godebug = none := by kernel_rfl
theorem laid : laidOutB Try.prog = true := by kernel_rfl
theorem kids : Kids Try.prog (· < Try.prog.types.size) := kids_rows laid (by kernel_rfl)
theorem full : ∀ t e, t < Try.prog.types.size → Try.prog.underlying t = some (.slice e) → 0 < Try.prog.cellsOf e := slices_full_of Try.prog (by kernel_rfl)
theorem c2 : Try.prog.cellsOf 2 = 1 := by kernel_rfl
theorem c3 : Try.prog.cellsOf 3 = 1 := by kernel_rfl
theorem c4 : Try.prog.cellsOf 4 = 1 := by kernel_rfl
theorem c5 : Try.prog.cellsOf 5 = 1 := by kernel_rfl
theorem c9 : Try.prog.cellsOf 9 = 1 := by kernel_rfl
theorem c40 : Try.prog.cellsOf 40 = 1 := by kernel_rfl
theorem c53 : Try.prog.cellsOf 53 = 2 := by kernel_rfl
theorem c56 : Try.prog.cellsOf 56 = 3 := by kernel_rfl
theorem c58 : Try.prog.cellsOf 58 = 9 := by kernel_rfl
theorem wf64 {n : Int} (h : (Lit.int .i64 n).wf = true) : Px.Fe.I64 n := by
 unfold Px.Fe.I64
 have : -9223372036854775808 ≤ n ∧ n ≤ 9223372036854775807 := by simpa [Lit.wf, IntKind.min, IntKind.max, IntKind.signed, IntKind.bits] using h
 omega
theorem wf8 {n : Int} (h : (Lit.int .u8 n).wf = true) : 0 ≤ n ∧ n ≤ 255 := by
 simpa [Lit.wf, IntKind.min, IntKind.max, IntKind.signed, IntKind.bits] using h
section
variable {H : Type} {enc : TypeId × Value → H} {W : World}
theorem el5 (n : Nat) (cs : List Value) (y : DataW H × List MemPlace) (h : DataW.trod enc Try.prog W 0 (fun _ => true) true n 5 cs = some y) : ∃ x : UInt8, Px.VRs (Px.fzm (Px.held0 W)) (Px.Fe.encB x) cs ∧ True := by
 obtain ⟨a, ha, _, wa⟩ := DataW.trod_int Try.underlying5 h
 have := wf8 wa
 subst ha
 have e : ((UInt8.ofNat a.toNat).toNat : Int) = a := by rw [UInt8.toNat_ofNat']; omega
 refine ⟨UInt8.ofNat a.toNat, ?_, trivial⟩
 simp only [Px.VRs, Px.VR, Px.Fe.encB]
 exact ⟨_, _, by rw [e], rfl, rfl⟩
theorem read23 {n : Nat} {v : Value} {y : DataW H × List MemPlace} (h : DataW.trod enc Try.prog W 0 (fun _ => true) true n 23 [v] = some y) (hb : Rows.uptoBulk y.1 ≤ 1048576) : ∃ l : List UInt8, Px.VR (Px.fzm (Px.held0 W)) (Px.Fe.bysA l) v ∧ l.length ≤ 1048576 := by
 obtain ⟨l, hl, hq⟩ := Px.read_sliceB (en := Px.Fe.encB) (z := 1) (by omega) (fun _ => rfl) Try.underlying23 c5 (Q := fun _ _ => True) (B := fun _ => True) (fun n cs y _ h => el5 n cs y h) (fun _ _ _ _ _ => trivial) h
 refine ⟨l, hl, ?_⟩
 rcases hq with ⟨rfl, _⟩ | ⟨els, sp, h1, h2, h3⟩
 ·exact Nat.zero_le _
 ·have hs := bulks.slice_le els sp
  rw [← h1] at hs
  omega
def DaQ (x : Px.Fs.Da) (d : DataW H) : Prop := x.v.s.length + 1 ≤ Rows.uptoBulk d ∧ Px.Fe.DaI x
theorem el58 (n : Nat) (cs : List Value) (y : DataW H × List MemPlace) (h : DataW.trod enc Try.prog W 0 (fun _ => true) true n 58 cs = some y) : ∃ x : Px.Fs.Da, Px.VRs (Px.fzm (Px.held0 W)) (Px.Fs.encDa x) cs ∧ DaQ x y.1 := by
 obtain ⟨xs, k, rfl, rfl, hlen, hxl, hf⟩ := DataW.trod_struct Try.underlying58 h
 rw [c58] at hlen
 match cs, hlen with
 | [p0, p1, p2, p3, p4, p5, p6, p7, p8], _ =>
  match xs, hxl with
  | [x0, x1, x2, x3, x4, x5, x6], _ =>
   have g0 : DataW.trod enc Try.prog W 0 (fun _ => true) true k 2 [p0] = some x0 := by have := hf 0 _ rfl; simpa [c2] using this
   have g1 : DataW.trod enc Try.prog W 0 (fun _ => true) true k 2 [p1] = some x1 := by have := hf 1 _ rfl; simpa [c2] using this
   have g2 : DataW.trod enc Try.prog W 0 (fun _ => true) true k 56 [p2, p3, p4] = some x2 := by have := hf 2 _ rfl; simpa [c56] using this
   have g3 : DataW.trod enc Try.prog W 0 (fun _ => true) true k 2 [p5] = some x3 := by have := hf 3 _ rfl; simpa [c2] using this
   have g4 : DataW.trod enc Try.prog W 0 (fun _ => true) true k 4 [p6] = some x4 := by have := hf 4 _ rfl; simpa [c4] using this
   have g5 : DataW.trod enc Try.prog W 0 (fun _ => true) true k 2 [p7] = some x5 := by have := hf 5 _ rfl; simpa [c2] using this
   have g6 : DataW.trod enc Try.prog W 0 (fun _ => true) true k 2 [p8] = some x6 := by have := hf 6 _ rfl; simpa [c2] using this
   obtain ⟨e, he, _, _⟩ := DataW.trod_int Try.underlying2 g0
   obtain ⟨a, ha, _, _⟩ := DataW.trod_int Try.underlying2 g1
   obtain ⟨t, ht, _, _⟩ := DataW.trod_int Try.underlying2 g3
   obtain ⟨ad, had, _⟩ := DataW.trod_bool Try.underlying4 g4
   obtain ⟨fr, hfr, _, wfr⟩ := DataW.trod_int Try.underlying2 g5
   obtain ⟨to, hto, _, wto⟩ := DataW.trod_int Try.underlying2 g6
   obtain ⟨zs, m, rfl, rfl, zlen, zxl, zf⟩ := DataW.trod_struct Try.underlying56 g2
   match zs, zxl with
   | [z0, z1, z2], _ =>
    have i0 : DataW.trod enc Try.prog W 0 (fun _ => true) true m 3 [p2] = some z0 := by have := zf 0 _ rfl; simpa [c3] using this
    have i1 : DataW.trod enc Try.prog W 0 (fun _ => true) true m 2 [p3] = some z1 := by have := zf 1 _ rfl; simpa [c2] using this
    have i2 : DataW.trod enc Try.prog W 0 (fun _ => true) true m 9 [p4] = some z2 := by have := zf 2 _ rfl; simpa [c9] using this
    obtain ⟨vk, hk, _, _⟩ := DataW.trod_int Try.underlying3 i0
    obtain ⟨vn, hn, _, wvn⟩ := DataW.trod_int Try.underlying2 i1
    obtain ⟨vs, hs, hz2, _⟩ := DataW.trod_string Try.underlying9 i2
    simp only [List.cons.injEq, and_true] at he ha ht had hfr hto hk hn hs
    subst he; subst ha; subst ht; subst had; subst hfr; subst hto; subst hk; subst hn; subst hs; subst hz2
    refine ⟨⟨e, a, ⟨vk, vn, vs.data.toList⟩, t, ad, fr, to⟩, ?_, ?_, wf64 wvn, wf64 wfr, wf64 wto⟩
    ·have h1 := Px.read_str (Px.fzm (Px.held0 W)) vs
     simp only [Px.Fs.encDa, Px.VRs, Px.VR]
     exact ⟨_, _, rfl, ⟨_, _, rfl, ⟨_, _, rfl, ⟨_, _, rfl, ⟨_, _, h1, ⟨_, _, rfl, ⟨_, _, rfl, ⟨_, _, rfl, ⟨_, _, rfl, rfl, rfl⟩, rfl⟩, rfl⟩, rfl⟩, rfl⟩, rfl⟩, rfl⟩, rfl⟩, rfl⟩
    ·simp only [List.map_cons, List.map_nil, Rows.uptoBulk, Rows.uptoBulkAll]; omega
theorem sum_bulk : ∀ (l : List Px.Fs.Da) (els : List (DataW H)), els.length = l.length → (∀ i, i < l.length → ∃ d, els[i]? = some d ∧ DaQ (l.getD i default) d) → Px.Fe.sumD l ≤ 21 * Rows.uptoBulkAll els
 | [], _, _, _ => Nat.zero_le _
 | x :: l, [], h, _ => by cases h
 | x :: l, y :: els, h, hq => by
  have ih := sum_bulk l els (by simpa using h) (fun i hi => by
   have := hq (i + 1) (by simp only [List.length_cons]; omega)
   simpa using this)
  obtain ⟨d, hd, q, _⟩ := hq 0 (by simp)
  simp only [List.getElem?_cons_zero, Option.some.injEq, List.getD_cons_zero] at hd q
  subst hd
  have hy := bulks.one_le y
  unfold Px.Fe.sumD at *
  simp only [List.map_cons, List.sum_cons, Rows.uptoBulkAll]
  omega
def TxQ (x : Px.Fe.Tx) (d : DataW H) : Prop := (Px.Fe.sumD x.l ≤ 21 * Rows.uptoBulk d ∧ x.l.length ≤ Rows.uptoBulk d) ∧ ∀ e, e ∈ x.l → Px.Fe.DaI e
theorem el53 (n : Nat) (cs : List Value) (y : DataW H × List MemPlace) (h : DataW.trod enc Try.prog W 0 (fun _ => true) true n 53 cs = some y) : ∃ x : Px.Fe.Tx, Px.VRs (Px.fzm (Px.held0 W)) (Px.Fe.encTx x) cs ∧ TxQ x y.1 := by
 obtain ⟨xs, k, rfl, rfl, hlen, hxl, hf⟩ := DataW.trod_struct Try.underlying53 h
 rw [c53] at hlen
 match cs, hlen with
 | [p0, p1], _ =>
  match xs, hxl with
  | [x0, x1], _ =>
   have g0 : DataW.trod enc Try.prog W 0 (fun _ => true) true k 2 [p0] = some x0 := by have := hf 0 _ rfl; simpa [c2] using this
   have g1 : DataW.trod enc Try.prog W 0 (fun _ => true) true k 40 [p1] = some x1 := by have := hf 1 _ rfl; simpa [c40] using this
   obtain ⟨t, ht, _, _⟩ := DataW.trod_int Try.underlying2 g0
   obtain ⟨l, hl, hq⟩ := Px.read_sliceB (en := Px.Fs.encDa) (z := 9) (by omega) (fun _ => rfl) Try.underlying40 c58 (Q := DaQ) (B := fun _ => True) (fun n cs y _ h => el58 n cs y h) (fun _ _ _ _ _ => trivial) g1
   simp only [List.cons.injEq, and_true] at ht
   subst ht
   refine ⟨⟨t, l⟩, ?_, ?_⟩
   ·have hl : Px.VR (Px.fzm (Px.held0 W)) (Px.Fe.dasA l) p1 := hl
    simp only [Px.Fe.encTx, Px.VRs, Px.VR]
    exact ⟨_, _, rfl, ⟨_, _, hl, rfl, rfl⟩, rfl⟩
   ·simp only [TxQ, List.map_cons, List.map_nil, Rows.uptoBulk, Rows.uptoBulkAll]
    rcases hq with ⟨rfl, _⟩ | ⟨els, sp, h1, h2, h3⟩
    ·exact ⟨⟨Nat.zero_le _, Nat.zero_le _⟩, fun e he => by cases he⟩
    ·have hs := bulks.slice_le els sp
     have he := bulks.slice_elems els sp
     have hsum := sum_bulk l els h2 h3
     rw [h1]
     refine ⟨⟨by omega, by omega⟩, fun e he => ?_⟩
     obtain ⟨i, hi, rfl⟩ := List.getElem_of_mem he
     obtain ⟨_, _, q⟩ := h3 i hi
     rw [List.getD_eq_getElem?_getD, List.getElem?_eq_getElem hi] at q
     exact q.2
theorem read22 {n : Nat} {v : Value} {y : DataW H × List MemPlace} (h : DataW.trod enc Try.prog W 0 (fun _ => true) true n 22 [v] = some y) (hb : Rows.uptoBulk y.1 ≤ 1048576) : ∃ l : List Px.Fe.Tx, Px.VR (Px.fzm (Px.held0 W)) (Px.Fe.txsA l) v ∧ l.length ≤ 10000000 ∧ (∀ i, Px.Fe.sumD (l.getD i default).l ≤ 1000000000) ∧ (∀ i, (l.getD i default).l.length ≤ 10000000) ∧ ∀ x, x ∈ l → ∀ d, d ∈ x.l → Px.Fe.DaI d := by
 obtain ⟨l, hl, hq⟩ := Px.read_sliceB (en := Px.Fe.encTx) (z := 2) (by omega) (fun _ => rfl) Try.underlying22 c53 (Q := TxQ) (B := fun _ => True) (fun n cs y _ h => el53 n cs y h) (fun _ _ _ _ _ => trivial) h
 refine ⟨l, hl, ?_⟩
 rcases hq with ⟨rfl, _⟩ | ⟨els, sp, h1, h2, h3⟩
 ·exact ⟨Nat.zero_le _, fun i => by rw [List.getD_nil]; exact Nat.zero_le _, fun i => by rw [List.getD_nil]; exact Nat.zero_le _, fun x hx => by cases hx⟩
 ·have hs := bulks.slice_le els sp
  have he := bulks.slice_elems els sp
  rw [← h1] at hs he
  have key : ∀ i, Px.Fe.sumD (l.getD i default).l ≤ 1000000000 ∧ (l.getD i default).l.length ≤ 10000000 := fun i => by
   by_cases hi : i < l.length
   ·obtain ⟨d, hd, q⟩ := h3 i hi
    have := bulks.part_le (List.mem_of_getElem? hd)
    have q1 := q.1
    omega
   ·have e : l.getD i default = default := by
     rw [List.getD_eq_getElem?_getD, List.getElem?_eq_none (by omega)]; rfl
    rw [e]
    exact ⟨Nat.zero_le _, Nat.zero_le _⟩
  refine ⟨by omega, fun i => (key i).1, fun i => (key i).2, fun x hx => ?_⟩
  obtain ⟨i, hi, rfl⟩ := List.getElem_of_mem hx
  obtain ⟨_, _, q⟩ := h3 i hi
  rw [List.getD_eq_getElem?_getD, List.getElem?_eq_getElem hi] at q
  exact q.2
end
end Go.Proofs.Ythlbnmohaeeccaa.feedIn
end
