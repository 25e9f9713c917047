/- Parts of the proof in YthlbnmohaeeccaaVFin: FeBk. -/
import Derived.Test.YthlbnmohaeeccaaVLb
import Derived.Test.YthlbnmohaeeccaaVLc
import Derived.Test.YthlbnmohaeeccaaVK4
set_option linter.unusedVariables false
set_option linter.unusedSimpArgs false
section
set_option maxHeartbeats 4000000
set_option maxRecDepth 200000
namespace Go.Px.Fe
open Go.Proofs Go.Px.Fs
attribute [local irreducible] Go.Px.KOk
def kindsE : List Bool := [false, false, true, false, false, false, false]
noncomputable def dOf (l : List Pt) : Da := ⟨(l.getD 0 default).n, (l.getD 1 default).n, (l.getD 2 default).v, (l.getD 3 default).n, bd ((l.getD 4 default).n = 0), (l.getD 5 default).n, (l.getD 6 default).n⟩
def okDl (l : List Pt) : Prop := DaP (dOf l) ∧ (l.getD 4 default).n = addN (dOf l)
noncomputable def rdat (b : Str) : Option Da := bif (rparts kindsE ⟨b, false⟩).2.bad || !bd ((rparts kindsE ⟨b, false⟩).2.b.length = 0) then none else bif bd (okDl (rparts kindsE ⟨b, false⟩).1) then some (dOf (rparts kindsE ⟨b, false⟩).1) else none
noncomputable def datR (x : Option Da) : AV := match x with | some d => .tup [.agg (encDa d), .int .i64 0] | none => .tup [.agg (encDa default), .int .i64 40]
theorem rparts_len : ∀ (ks : List Bool) (r : Rd), (rparts ks r).2.bad = false → (rparts ks r).1.length = ks.length
 | [], r, _ => rfl
 | k :: ks, r, h => by
  unfold rparts at h ⊢
  cases hb : (rpart k r).2.bad with
  | true => rw [hb] at h; simp only [] at h; rw [hb] at h; cases h
  | false =>
   rw [hb] at h
   simp only [List.length_cons] at h ⊢
   rw [rparts_len ks _ h]
theorem rpart_s (k : Bool) (r : Rd) (h : r.b.length ≤ 100000) : (rpart k r).1.v.s.length ≤ 100000 := by
 cases k with
 | false => exact Nat.zero_le _
 | true =>
  show (rval r).1.s.length ≤ _
  have h1 := rtake_le r 1
  unfold rval rbody
  split
  ·exact Nat.zero_le _
  ·split
   ·exact txtOf_le _ (Nat.le_trans h1 h)
   ·exact Nat.zero_le _
theorem rparts_s : ∀ (ks : List Bool) (r : Rd), r.b.length ≤ 100000 → ∀ i, ((rparts ks r).1.getD i default).v.s.length ≤ 100000
 | [], r, _, i => by show ((([] : List Pt).getD i default)).v.s.length ≤ _; rw [List.getD_nil]; exact Nat.zero_le _
 | k :: ks, r, h, i => by
  unfold rparts
  cases hb : (rpart k r).2.bad with
  | true => simp only [List.getD_nil]; exact Nat.zero_le _
  | false =>
   simp only []
   cases i with
   | zero => exact rpart_s k r h
   | succ i =>
    rw [List.getD_cons_succ]
    exact rparts_s ks _ (Nat.le_trans (rpart_le k r) h) i
def kB (p : Pt) : List AV := [.bool p.val]
abbrev d0 : Da := default
noncomputable def r31_0 : List Oper := ((drawn (Try.f31.body.getD .skip))[0]?).getD []
theorem dr31_0 : chkOrd cF r31_0 [0, 1, 2, 3, 4, 5, 6, 7, 8, 9, 10, 11, 12, 13, 14, 15, 16, 17, 18, 19] = true := by kernel_rfl
noncomputable def r31_1 : List Oper := ((drawn (Try.f31.body.getD .skip))[1]?).getD []
theorem dg31_1 : lvChk r31_1 262143 ([(0, [0, 4, 8])] :: [[(1, [1, 4, 8]), (16, [0, 5, 8]), (256, [0, 4, 9])], [(3, [2, 4, 8]), (17, [1, 5, 8]), (48, [0, 6, 8]), (257, [1, 4, 9]), (272, [0, 5, 9]), (768, [0, 4, 10])], [(7, [3, 4, 8]), (19, [2, 5, 8]), (49, [1, 6, 8]), (112, [0, 7, 8]), (259, [2, 4, 9]), (273, [1, 5, 9]), (304, [0, 6, 9]), (769, [1, 4, 10]), (784, [0, 5, 10]), (1792, [0, 4, 11])], [(15, [4, 8, 12]), (23, [3, 5, 8]), (51, [2, 6, 8]), (113, [1, 7, 8]), (240, [0, 8]), (263, [3, 4, 9]), (275, [2, 5, 9]), (305, [1, 6, 9]), (368, [0, 7, 9]), (771, [2, 4, 10]), (785, [1, 5, 10]), (816, [0, 6, 10]), (1793, [1, 4, 11]), (1808, [0, 5, 11]), (3840, [0, 4])], [(31, [5, 8, 12]), (55, [3, 6, 8]), (115, [2, 7, 8]), (241, [1, 8]), (271, [4, 9, 12]), (279, [3, 5, 9]), (307, [2, 6, 9]), (369, [1, 7, 9]), (496, [0, 9]), (775, [3, 4, 10]), (787, [2, 5, 10]), (817, [1, 6, 10]), (880, [0, 7, 10]), (1795, [2, 4, 11]), (1809, [1, 5, 11]), (1840, [0, 6, 11]), (3841, [1, 4]), (3856, [0, 5]), (4111, [4, 8, 13])], [(63, [6, 8, 12]), (119, [3, 7, 8]), (243, [2, 8]), (287, [5, 9, 12]), (311, [3, 6, 9]), (371, [2, 7, 9]), (497, [1, 9]), (783, [4, 10, 12]), (791, [3, 5, 10]), (819, [2, 6, 10]), (881, [1, 7, 10]), (1008, [0, 10]), (1799, [3, 4, 11]), (1811, [2, 5, 11]), (1841, [1, 6, 11]), (1904, [0, 7, 11]), (3843, [2, 4]), (3857, [1, 5]), (3888, [0, 6]), (4127, [5, 8, 13]), (4367, [4, 9, 13]), (12303, [4, 8])], [(127, [7, 8, 12]), (247, [3, 8]), (319, [6, 9, 12]), (375, [3, 7, 9]), (499, [2, 9]), (799, [5, 10, 12]), (823, [3, 6, 10]), (883, [2, 7, 10]), (1009, [1, 10]), (1807, [4, 11, 12]), (1815, [3, 5, 11]), (1843, [2, 6, 11]), (1905, [1, 7, 11]), (2032, [0, 11]), (3847, [3, 4]), (3859, [2, 5]), (3889, [1, 6]), (3952, [0, 7]), (4159, [6, 8, 13]), (4383, [5, 9, 13]), (4879, [4, 10, 13]), (12319, [5, 8]), (12559, [4, 9])], [(255, [8, 12]), (383, [7, 9, 12]), (503, [3, 9]), (831, [6, 10, 12]), (887, [3, 7, 10]), (1011, [2, 10]), (1823, [5, 11, 12]), (1847, [3, 6, 11]), (1907, [2, 7, 11]), (2033, [1, 11]), (3855, [4, 12]), (3863, [3, 5]), (3891, [2, 6]), (3953, [1, 7]), (4080, [0]), (4223, [7, 8, 13]), (4415, [6, 9, 13]), (4895, [5, 10, 13]), (5903, [4, 11, 13]), (12351, [6, 8]), (12575, [5, 9]), (13071, [4, 10])], [(511, [9, 12]), (895, [7, 10, 12]), (1015, [3, 10]), (1855, [6, 11, 12]), (1911, [3, 7, 11]), (2035, [2, 11]), (3871, [5, 12]), (3895, [3, 6]), (3955, [2, 7]), (4081, [1]), (4351, [8, 13]), (4479, [7, 9, 13]), (4927, [6, 10, 13]), (5919, [5, 11, 13]), (7951, [4, 13]), (12415, [7, 8]), (12607, [6, 9]), (13087, [5, 10]), (14095, [4, 11])], [(1023, [10, 12]), (1919, [7, 11, 12]), (2039, [3, 11]), (3903, [6, 12]), (3959, [3, 7]), (4083, [2]), (4607, [9, 13]), (4991, [7, 10, 13]), (5951, [6, 11, 13]), (7967, [5, 13]), (12543, [8, 14]), (12671, [7, 9]), (13119, [6, 10]), (14111, [5, 11]), (16143, [4])], [(2047, [11, 12]), (3967, [7, 12]), (4087, [3]), (5119, [10, 13]), (6015, [7, 11, 13]), (7999, [6, 13]), (12799, [9, 14]), (13183, [7, 10]), (14143, [6, 11]), (16159, [5]), (28927, [8, 15])], [(4095, [12]), (6143, [11, 13]), (8063, [7, 13]), (13311, [10, 14]), (14207, [7, 11]), (16191, [6]), (29183, [9, 15]), (61695, [8])], [(8191, [13]), (14335, [11, 14]), (16255, [7]), (29695, [10, 15]), (61951, [9])], [(16383, [14]), (30719, [11, 15]), (62463, [10])], [(32767, [15]), (63487, [11])], [(65535, [16])], [(131071, [17])], [(262143, [])]]) = true := by kernel_rfl
noncomputable def r31_5 : List Oper := ((drawn (Try.f31.body.getD .skip))[5]?).getD []
theorem dr31_5 : chkOrd cF r31_5 [0, 1, 2, 3, 4, 5, 6, 7, 8, 9, 14, 15, 10, 11, 12, 13, 16, 17] = true := by kernel_rfl
theorem k31 (b : Str) (hb : b.length ≤ 100000) : KOk cF 31 [.int .i64 1, bysA b] (datR (rdat b)) := by
 have k1 := k52
 have k2 := k59 d0
 have k6 := k60 b kindsE hb (by decide)
 have hle := rparts_len kindsE ⟨b, false⟩
 have hls := rparts_s kindsE ⟨b, false⟩ hb
 unfold rdat
 generalize rparts kindsE ⟨b, false⟩ = x at *
 obtain ⟨l, rb, bad⟩ := x
 simp only at k6 hle hls ⊢
 refine KOk.of cF_ok eF.g Try.func31 rfl (Nat.le_of_ble_eq_true rfl) fun w F => ?_
 repeat' first | refine Go.seq ?_ | refine Go.region rfl ?_ | refine Ops.nil ?_ | refine Ops.val eF rfl rfl Zw (by first | exact Z1 | exact Z2 | exact Y36) ?_ | refine Ops.call eF rfl rfl Zw rfl rfl rfl rfl (k1) rfl ?_ | refine Ops.call eF rfl rfl Zw rfl rfl rfl rfl (k2) rfl ?_ | refine Ops.rowAt eF 0 rfl rfl Zw rfl (Hop.alloc eF rfl rfl rfl) ?_ | refine Ops.rowAt eF 1 rfl rfl Zw rfl (Hop.alloc eF rfl rfl rfl) ?_ | refine Go.condF rfl ?_ | refine Go.block ?_ | refine Go.skip ?_
 refine Go.change (Chg.tokCell 2 1 4 1 rfl rfl rfl) ?_
 refine Go.to (M := [(0, .int .i64 1), (1, bysA b), (4, .ptr 0 0), (6, .ptr 1 0), (18, .fn (.func 84) [] [.rptr [.int .i64 1], .rptr (encDa d0)])]) ?_ Zt
 refine Go.rangeK eF 3 rfl rfl rfl (it84 d0) rfl (fun j => hq 4 [.row ⟨58, 9, .leaf, encDa d0, none⟩, .row ⟨103, 1, .leaf, [.own 2 ((ptsE d0).take j).length 1], none⟩, .arr 4 1 ((ptsE d0).take j).length (((ptsE d0).take j).flatMap kB), .dfr true])
  (fun b => ChgE.cut _ rfl eF.g rfl Zg Zl) (fun j v hv => by rw [(itemsP_at hv).2]; rfl) rfl (fun j v hv b2 => ?_) ?_
 ·obtain ⟨hj, rfl⟩ := itemsP_at hv
  have hjl : j < (ptsE d0).length := hj
  have ea := take_succ' hjl
  have hlen : ((ptsE d0).take j).length ≤ 7 := by rw [List.length_take]; exact Nat.min_le_right _ _
  repeat' first | refine Go.region rfl ?_ | refine Ops.nil ?_ | refine Ops.rowAt eF 4 rfl rfl Zw rfl (Hop.alloc eF rfl rfl rfl) ?_ | refine Ops.unit eF rfl Zw (Hop.store eF rfl rfl rfl rfl rfl rfl) (ArrKeep.put rfl) ?_
  refine Go.bodyK (fun b3 => ?_)
  repeat' first | refine Go.region rfl ?_ | refine Ops.nil ?_ | refine Ops.val eF rfl rfl Zw (by first | exact Z4 | exact Z5) ?_ | refine Ops.data eF rfl rfl Zw rfl (Hop.bslice eF rfl rfl rfl rfl rfl rfl rfl rfl rfl rfl rfl) rfl rfl ?_ | refine Ops.appendE eF rfl rfl Zw rfl rfl rfl rfl rfl rfl rfl rfl rfl rfl rfl rfl rfl rfl rfl rfl Zi rfl rfl rfl rfl rfl Zz (by omega) ?_ | refine Ops.unit eF rfl Zw (Hop.store eF rfl rfl rfl rfl rfl rfl) (ArrKeep.put rfl) ?_ | refine Go.block ?_ | refine Go.unblk ?_
  refine Go.nextK ?_
  rw [ea, List.length_append, List.flatMap_append]
  exact ChgE.cut _ rfl eF.g rfl Zg Zl
 ·rw [show (itemsP d0).length = (ptsE d0).length by simp [itemsP, ptsE], List.take_length]
  refine Go.unblk ?_
  refine Go.change (Chg.cellFrz 1 2 rfl rfl (by repeat' first | exact trivial | exact .inl rfl | exact .inr trivial | exact .inr (ind_row rfl rfl) | refine And.intro ?_ ?_) rfl rfl rfl) ?_
  cases bad with
  | true =>
   simp only [Bool.true_or, cond_true] at k6 ⊢
   repeat' first | refine Go.seq ?_ | refine Go.region rfl ?_ | refine Ops.nil ?_ | refine Go.condNn rfl Za ?_ | refine Ops.val eF rfl rfl Zw (by first | exact Z1 | exact Z3 | exact Z5 | exact Y36) ?_ | refine Ops.call eF rfl rfl Zw rfl rfl rfl rfl (k6) rfl ?_ | refine Ops.unit eF rfl Zw (Hop.store eF rfl rfl rfl rfl rfl rfl) (ArrKeep.put rfl) ?_
   exact Zr
  | false =>
   simp only [Bool.false_or] at k6 ⊢
   by_cases hz : rb.length = 0
   ·simp only [bd_of hz, Bool.not_true, cond_false] at k6 ⊢
    have hl7 : l.length = 7 := hle rfl
    have k7 := k42 (dOf l) (hls 2)
    repeat' first | refine Go.seq ?_ | refine Go.region rfl ?_ | refine Ops.nil ?_ | refine Go.condNp rfl Za ?_ | refine Ops.val eF rfl rfl Zw (by first | exact Z1 | exact Z3 | exact Z5) ?_ | refine Ops.call eF rfl rfl Zw rfl rfl rfl rfl (k6) rfl ?_ | refine Go.skip ?_
    refine Go.draw eF hm [] [0, 1, 2, 3, 4, 5, 6, 7, 8, 9, 10, 11, 12, 13, 14, 15, 16, 17, 18, 19] dr31_0 ?_
    repeat' first | refine Dr.nil ?_ | refine Dr.pure rfl rfl rfl rfl Zw (by first | exact Z1 | exact Z3 | exact Z4 | exact Y24 | exact Z5 | exact Y36) ?_ | refine Dr.light rfl rfl rfl rfl Zw Z5 ?_ | refine Dr.rowAt 4 rfl rfl rfl rfl Zw rfl (Hop.alloc eF rfl rfl rfl) ?_ | refine Dr.store rfl rfl rfl Zw (Hop.store eF rfl rfl rfl rfl rfl rfl) (ArrKeep.put rfl) rfl ?_
    repeat' first | refine Go.seq ?_ | refine Go.region rfl ?_ | refine Ops.nil ?_ | refine Ops.val eF rfl rfl Zw (by first | exact Z1 | exact Z3) ?_ | refine Go.condTt rfl Za ?_ | refine Go.block ?_
    refine Go.toHQ (N := 5) (bs := [.row ⟨58, 9, .leaf, encDa d0, none⟩, .none, .none, .dfr true, .row ⟨58, 9, .leaf, encDa ⟨0, 0, default, (l.getD 3 default).n, (bd ((l.getD 4 default).n = 0)), (l.getD 5 default).n, (l.getD 6 default).n⟩, none⟩]) (L' := [(0, .int .i64 1), (4, .ptr 0 0), (9, ptsA l), (11, .ptr 4 0)]) ?_ rfl eF.g Zt rfl rfl Zg Zl rfl rfl
    refine Go.dag 262143 hm (fun D => selL [(0, .int .i64 1), (4, .ptr 0 0), (9, ptsA l), (11, .ptr 4 0)] D [(17, 100, 85, .ptr 4 2), (15, 100, 84, .ptr 4 1), (13, 100, 83, .ptr 4 0), (12, 100, 82, .agg (encVa (l.getD 2 default).v)), (11, 100, 81, .rptr (encVa (l.getD 2 default).v)), (10, 100, 80, .rptr (encPt (l.getD 2 default))), (9, 100, 79, ptsA l), (8, 100, 78, .int .i64 (l.getD 1 default).n), (7, 100, 77, .rptr [.int .i64 (l.getD 1 default).n]), (6, 100, 76, .rptr (encPt (l.getD 1 default))), (5, 100, 75, ptsA l), (4, 100, 74, .int .i64 (l.getD 0 default).n), (3, 100, 73, .rptr [.int .i64 (l.getD 0 default).n]), (2, 100, 72, .rptr (encPt (l.getD 0 default))), (1, 100, 71, ptsA l)]) (fun D => match bitB D 17 with | true => hq 5 [.row ⟨58, 9, .leaf, encDa d0, none⟩, .none, .none, .dfr true, .row ⟨58, 9, .leaf, encDa ⟨(l.getD 0 default).n, (l.getD 1 default).n, (l.getD 2 default).v, (l.getD 3 default).n, (bd ((l.getD 4 default).n = 0)), (l.getD 5 default).n, (l.getD 6 default).n⟩, none⟩] | false => match bitB D 15 with | true => hq 5 [.row ⟨58, 9, .leaf, encDa d0, none⟩, .none, .none, .dfr true, .row ⟨58, 9, .leaf, encDa ⟨(l.getD 0 default).n, (l.getD 1 default).n, default, (l.getD 3 default).n, (bd ((l.getD 4 default).n = 0)), (l.getD 5 default).n, (l.getD 6 default).n⟩, none⟩] | false => match bitB D 13 with | true => hq 5 [.row ⟨58, 9, .leaf, encDa d0, none⟩, .none, .none, .dfr true, .row ⟨58, 9, .leaf, encDa ⟨(l.getD 0 default).n, 0, default, (l.getD 3 default).n, (bd ((l.getD 4 default).n = 0)), (l.getD 5 default).n, (l.getD 6 default).n⟩, none⟩] | false => hq 5 [.row ⟨58, 9, .leaf, encDa d0, none⟩, .none, .none, .dfr true, .row ⟨58, 9, .leaf, encDa ⟨0, 0, default, (l.getD 3 default).n, (bd ((l.getD 4 default).n = 0)), (l.getD 5 default).n, (l.getD 6 default).n⟩, none⟩]) [0, 4, 8] [[(1, [1, 4, 8]), (16, [0, 5, 8]), (256, [0, 4, 9])], [(3, [2, 4, 8]), (17, [1, 5, 8]), (48, [0, 6, 8]), (257, [1, 4, 9]), (272, [0, 5, 9]), (768, [0, 4, 10])], [(7, [3, 4, 8]), (19, [2, 5, 8]), (49, [1, 6, 8]), (112, [0, 7, 8]), (259, [2, 4, 9]), (273, [1, 5, 9]), (304, [0, 6, 9]), (769, [1, 4, 10]), (784, [0, 5, 10]), (1792, [0, 4, 11])], [(15, [4, 8, 12]), (23, [3, 5, 8]), (51, [2, 6, 8]), (113, [1, 7, 8]), (240, [0, 8]), (263, [3, 4, 9]), (275, [2, 5, 9]), (305, [1, 6, 9]), (368, [0, 7, 9]), (771, [2, 4, 10]), (785, [1, 5, 10]), (816, [0, 6, 10]), (1793, [1, 4, 11]), (1808, [0, 5, 11]), (3840, [0, 4])], [(31, [5, 8, 12]), (55, [3, 6, 8]), (115, [2, 7, 8]), (241, [1, 8]), (271, [4, 9, 12]), (279, [3, 5, 9]), (307, [2, 6, 9]), (369, [1, 7, 9]), (496, [0, 9]), (775, [3, 4, 10]), (787, [2, 5, 10]), (817, [1, 6, 10]), (880, [0, 7, 10]), (1795, [2, 4, 11]), (1809, [1, 5, 11]), (1840, [0, 6, 11]), (3841, [1, 4]), (3856, [0, 5]), (4111, [4, 8, 13])], [(63, [6, 8, 12]), (119, [3, 7, 8]), (243, [2, 8]), (287, [5, 9, 12]), (311, [3, 6, 9]), (371, [2, 7, 9]), (497, [1, 9]), (783, [4, 10, 12]), (791, [3, 5, 10]), (819, [2, 6, 10]), (881, [1, 7, 10]), (1008, [0, 10]), (1799, [3, 4, 11]), (1811, [2, 5, 11]), (1841, [1, 6, 11]), (1904, [0, 7, 11]), (3843, [2, 4]), (3857, [1, 5]), (3888, [0, 6]), (4127, [5, 8, 13]), (4367, [4, 9, 13]), (12303, [4, 8])], [(127, [7, 8, 12]), (247, [3, 8]), (319, [6, 9, 12]), (375, [3, 7, 9]), (499, [2, 9]), (799, [5, 10, 12]), (823, [3, 6, 10]), (883, [2, 7, 10]), (1009, [1, 10]), (1807, [4, 11, 12]), (1815, [3, 5, 11]), (1843, [2, 6, 11]), (1905, [1, 7, 11]), (2032, [0, 11]), (3847, [3, 4]), (3859, [2, 5]), (3889, [1, 6]), (3952, [0, 7]), (4159, [6, 8, 13]), (4383, [5, 9, 13]), (4879, [4, 10, 13]), (12319, [5, 8]), (12559, [4, 9])], [(255, [8, 12]), (383, [7, 9, 12]), (503, [3, 9]), (831, [6, 10, 12]), (887, [3, 7, 10]), (1011, [2, 10]), (1823, [5, 11, 12]), (1847, [3, 6, 11]), (1907, [2, 7, 11]), (2033, [1, 11]), (3855, [4, 12]), (3863, [3, 5]), (3891, [2, 6]), (3953, [1, 7]), (4080, [0]), (4223, [7, 8, 13]), (4415, [6, 9, 13]), (4895, [5, 10, 13]), (5903, [4, 11, 13]), (12351, [6, 8]), (12575, [5, 9]), (13071, [4, 10])], [(511, [9, 12]), (895, [7, 10, 12]), (1015, [3, 10]), (1855, [6, 11, 12]), (1911, [3, 7, 11]), (2035, [2, 11]), (3871, [5, 12]), (3895, [3, 6]), (3955, [2, 7]), (4081, [1]), (4351, [8, 13]), (4479, [7, 9, 13]), (4927, [6, 10, 13]), (5919, [5, 11, 13]), (7951, [4, 13]), (12415, [7, 8]), (12607, [6, 9]), (13087, [5, 10]), (14095, [4, 11])], [(1023, [10, 12]), (1919, [7, 11, 12]), (2039, [3, 11]), (3903, [6, 12]), (3959, [3, 7]), (4083, [2]), (4607, [9, 13]), (4991, [7, 10, 13]), (5951, [6, 11, 13]), (7967, [5, 13]), (12543, [8, 14]), (12671, [7, 9]), (13119, [6, 10]), (14111, [5, 11]), (16143, [4])], [(2047, [11, 12]), (3967, [7, 12]), (4087, [3]), (5119, [10, 13]), (6015, [7, 11, 13]), (7999, [6, 13]), (12799, [9, 14]), (13183, [7, 10]), (14143, [6, 11]), (16159, [5]), (28927, [8, 15])], [(4095, [12]), (6143, [11, 13]), (8063, [7, 13]), (13311, [10, 14]), (14207, [7, 11]), (16191, [6]), (29183, [9, 15]), (61695, [8])], [(8191, [13]), (14335, [11, 14]), (16255, [7]), (29695, [10, 15]), (61951, [9])], [(16383, [14]), (30719, [11, 15]), (62463, [10])], [(32767, [15]), (63487, [11])], [(65535, [16])], [(131071, [17])], [(262143, [])]] dg31_1 rfl (by repeat' first | exact trivial | refine ⟨rfl, ?_⟩) rfl ?_ ?_
    ·repeat' first | exact trivial | refine And.intro ?_ ?_ | refine Exists.intro _ (And.intro rfl ?_) | exact Ops.midE (by repeat' first | exact trivial | refine ⟨rfl, ?_⟩) | exact Ops.midQ eF.g rfl (by repeat' first | exact trivial | refine ⟨rfl, ?_⟩) rfl rfl (by repeat' first | exact trivial | refine And.intro ?_ ?_ | exact .inr rfl | exact .inl rfl) (by repeat' first | exact trivial | exact low_row rfl rfl | refine And.intro ?_ ?_) rfl rfl | refine Ops.val eF rfl rfl Zw (by first | exact Z1 | exact Z4 | exact Y24 | exact Z5) ?_ | refine Ops.unit eF rfl Zw (Hop.store eF rfl rfl rfl rfl rfl rfl) (ArrKeep.put rfl) ?_
    repeat' first | refine Go.seq ?_ | refine Go.unblk ?_
    let n54 : Ent cF := unitE (k54 (dOf l)) rfl
    let n61 : Ent cF := unitE (k61 (dOf l)) rfl
    by_cases hD : DaP (dOf l)
    ·rw [bd_of hD] at k7
     let n53 : Ent cF := unitE k7 rfl
     by_cases h4 : (l.getD (Int.toNat 4) default).n = addN (dOf l)
     ·rw [bd_of (show okDl l from ⟨hD, h4⟩)]
      simp only [cond_true]
      refine Go.draw eF hm [n53, n54, n61] [0, 1, 2, 3, 4, 5, 6, 7, 8, 9, 14, 15, 10, 11, 12, 13, 16, 17] dr31_5 ?_
      repeat' first | refine Dr.nil ?_ | refine Dr.pure rfl rfl rfl rfl Zw (by first | exact Z1 | exact Z2 | exact Z3 | exact Z4 | exact Y24 | exact Z5) ?_ | refine Dr.light rfl rfl rfl rfl Zw Z5 ?_ | refine Dr.call rfl rfl rfl rfl Zw rfl rfl rfl rfl (by first | exact pans_hd () rfl rfl | exact pans_tl rfl (pans_hd () rfl rfl) | exact pans_tl rfl (pans_tl rfl (pans_hd () rfl rfl))) ?_
      repeat' first | refine Go.seq ?_ | refine Go.region rfl ?_ | refine Ops.nil ?_ | refine Go.condNp rfl Za ?_ | refine Ops.val eF rfl rfl Zw (by first | exact Z1 | exact Z5) ?_ | refine Ops.unit eF rfl Zw (Hop.store eF rfl rfl rfl rfl rfl rfl) (ArrKeep.put rfl) ?_ | refine Go.skip ?_
      refine Go.toHQ (N := 4) (bs := [.row ⟨58, 9, .leaf, encDa (dOf l), none⟩, .none, .none, .dfr true]) (L' := [(4, .ptr 0 0), (5, .int .i64 0)]) ?_ rfl eF.g Zt rfl rfl Zg Zl rfl rfl
      exact Zr
     ·rw [bd_no (show ¬ okDl l from fun q => h4 q.2)]
      simp only [cond_false]
      refine Go.draw eF hm [n53, n54, n61] [0, 1, 2, 3, 4, 5, 6, 7, 8, 9, 14, 15, 10, 11, 12, 13, 16, 17] dr31_5 ?_
      repeat' first | refine Dr.nil ?_ | refine Dr.pure rfl rfl rfl rfl Zw (by first | exact Z1 | exact Z2 | exact Z3 | exact Z4 | exact Y24 | exact Z5) ?_ | refine Dr.light rfl rfl rfl rfl Zw Z5 ?_ | refine Dr.call rfl rfl rfl rfl Zw rfl rfl rfl rfl (by first | exact pans_hd () rfl rfl | exact pans_tl rfl (pans_hd () rfl rfl) | exact pans_tl rfl (pans_tl rfl (pans_hd () rfl rfl))) ?_
      repeat' first | refine Go.seq ?_ | refine Go.region rfl ?_ | refine Ops.nil ?_ | refine Go.condNn rfl Za ?_ | refine Ops.val eF rfl rfl Zw (by first | exact Z1 | exact Y36) ?_ | refine Ops.unit eF rfl Zw (Hop.store eF rfl rfl rfl rfl rfl rfl) (ArrKeep.put rfl) ?_
      refine Go.toHQ (N := 4) (bs := [.row ⟨58, 9, .leaf, encDa d0, none⟩, .none, .none, .dfr true]) (L' := [(4, .ptr 0 0), (5, .int .i64 40)]) ?_ rfl eF.g Zt rfl rfl Zg Zl rfl rfl
      exact Zr
    ·rw [bd_no hD] at k7
     let n53 : Ent cF := unitE k7 rfl
     rw [bd_no (show ¬ okDl l from fun q => hD q.1)]
     simp only [cond_false]
     refine Go.draw eF hm [n53, n54, n61] [0, 1, 2, 3, 4, 5, 6, 7, 8, 9, 14, 15, 10, 11, 12, 13, 16, 17] dr31_5 ?_
     repeat' first | refine Dr.nil ?_ | refine Dr.pure rfl rfl rfl rfl Zw (by first | exact Z1 | exact Z2 | exact Z5) ?_ | refine Dr.light rfl rfl rfl rfl Zw Z5 ?_ | refine Dr.skip rfl rfl rfl Zn ?_ | refine Dr.call rfl rfl rfl rfl Zw rfl rfl rfl rfl (by first | exact pans_hd () rfl rfl | exact pans_tl rfl (pans_hd () rfl rfl) | exact pans_tl rfl (pans_tl rfl (pans_hd () rfl rfl))) ?_
     repeat' first | refine Go.seq ?_ | refine Go.region rfl ?_ | refine Ops.nil ?_ | refine Ops.val eF rfl rfl Zw (by first | exact Z1 | exact Y36) ?_ | refine Ops.unit eF rfl Zw (Hop.store eF rfl rfl rfl rfl rfl rfl) (ArrKeep.put rfl) ?_ | refine Go.condT rfl ?_
     refine Go.toHQ (N := 4) (bs := [.row ⟨58, 9, .leaf, encDa d0, none⟩, .none, .none, .dfr true]) (L' := [(4, .ptr 0 0), (5, .int .i64 40)]) ?_ rfl eF.g Zt rfl rfl Zg Zl rfl rfl
     exact Zr
   ·simp only [bd_no hz, Bool.not_false, cond_true] at k6 ⊢
    repeat' first | refine Go.seq ?_ | refine Go.region rfl ?_ | refine Ops.nil ?_ | refine Go.condNn rfl Za ?_ | refine Ops.val eF rfl rfl Zw (by first | exact Z1 | exact Z3 | exact Z5 | exact Y36) ?_ | refine Ops.call eF rfl rfl Zw rfl rfl rfl rfl (k6) rfl ?_ | refine Ops.unit eF rfl Zw (Hop.store eF rfl rfl rfl rfl rfl rfl) (ArrKeep.put rfl) ?_
    exact Zr
end Go.Px.Fe
end
