/- Parts of the proof in YthlbnmohaeeccaaVFin: FeBg, FeBh, FeBj. -/
import Derived.Test.YthlbnmohaeeccaaVLa
import Derived.Test.YthlbnmohaeeccaaVLb
import Derived.Test.YthlbnmohaeeccaaVK4
set_option linter.unusedVariables false
set_option linter.unusedSimpArgs false
section
set_option maxHeartbeats 4000000
set_option maxRecDepth 20000
namespace Go.Px.Fe
open Go.Proofs Go.Px.Fs
attribute [local irreducible] Go.Px.KOk
def pT : Str → Option (Str × Nat)
 | [] => none
 | [_] => none
 | c :: d :: r => if c.toNat ≠ 0 then (pT (d :: r)).map (fun p => (c :: p.1, p.2 + 1)) else if d.toNat = 1 then some ([], 2) else if d.toNat = 255 then (pT r).map (fun p => (c :: p.1, p.2 + 2)) else none
theorem pT_c {c d : UInt8} {r : Str} (h : c.toNat ≠ 0) : pT (c :: d :: r) = (pT (d :: r)).map (fun p => (c :: p.1, p.2 + 1)) := by rw [pT.eq_def]; simp only []; rw [if_pos h]
theorem pT_1 {c d : UInt8} {r : Str} (h : c.toNat = 0) (k : d.toNat = 1) : pT (c :: d :: r) = some ([], 2) := by rw [pT.eq_def]; simp only []; rw [if_neg (by omega), if_pos k]
theorem pT_255 {c d : UInt8} {r : Str} (h : c.toNat = 0) (k : d.toNat = 255) : pT (c :: d :: r) = (pT r).map (fun p => (c :: p.1, p.2 + 2)) := by rw [pT.eq_def]; simp only []; rw [if_neg (by omega), if_neg (by omega), if_pos k]
theorem pT_n {c d : UInt8} {r : Str} (h : c.toNat = 0) (k1 : d.toNat ≠ 1) (k : d.toNat ≠ 255) : pT (c :: d :: r) = none := by rw [pT.eq_def]; simp only []; rw [if_neg (by omega), if_neg k1, if_neg k]
theorem pT_le : ∀ {b : Str} {p : Str × Nat}, pT b = some p → p.2 ≤ b.length ∧ p.1.length ≤ b.length
 | [], p, h => by cases h
 | [_], p, h => by cases h
 | c :: d :: r, p, h => by
  rw [pT.eq_def] at h
  simp only [] at h
  split at h
  ·cases q : pT (d :: r) with
   | none => rw [q] at h; cases h
   | some x => rw [q] at h; cases h; have := pT_le q; simp only [List.length_cons] at *; omega
  ·split at h
   ·cases h; simp
   ·split at h
    ·cases q : pT r with
     | none => rw [q] at h; cases h
     | some x => rw [q] at h; cases h; have := pT_le q; simp only [List.length_cons] at *; omega
    ·cases h
noncomputable def vaO (v : Va) (n : Nat) : Option (Va × Nat) := bif bd (VaP v) then some (v, n) else none
noncomputable def pV (b : Str) : Option (Va × Nat) :=
 if b.length < 2 then none
 else if ((b.getD 0 default).toNat : Int) = 2 then vaO ⟨2, (b.getD 1 default).toNat, []⟩ 2
 else if ((b.getD 0 default).toNat : Int) = 1 ∨ ((b.getD 0 default).toNat : Int) = 5 ∨ ((b.getD 0 default).toNat : Int) = 6 then
  (if b.length < 9 then none else vaO ⟨(b.getD 0 default).toNat, num8 ((b.drop 1).take 8), []⟩ 9)
 else if txtK (b.getD 0 default).toNat then
  (match pT (b.drop 1) with | none => none | some p => vaO ⟨(b.getD 0 default).toNat, 0, p.1⟩ (p.2 + 1))
 else none
noncomputable def oneR (x : Option (Va × Nat)) : AV := match x with | some p => .tup [.agg (encVa p.1), .int .i64 (p.2 : Nat)] | none => .tup [.agg (encVa default), .int .i64 0]
theorem pV_s {b : Str} (h : b.length < 2) : pV b = none := if_pos h
theorem pV_2 {b : Str} (h : ¬ b.length < 2) (h2 : ((b.getD 0 default).toNat : Int) = 2) : pV b = vaO ⟨2, (b.getD 1 default).toNat, []⟩ 2 := by
 unfold pV; rw [if_neg h, if_pos h2]
theorem pV_ns {b : Str} (h2 : ¬ ((b.getD 0 default).toNat : Int) = 2) (h1 : ((b.getD 0 default).toNat : Int) = 1 ∨ ((b.getD 0 default).toNat : Int) = 5 ∨ ((b.getD 0 default).toNat : Int) = 6) (h9 : b.length < 9) : pV b = none := by
 unfold pV; rw [if_neg h2, if_pos h1, if_pos h9]; simp
theorem pV_n {b : Str} (h2 : ¬ ((b.getD 0 default).toNat : Int) = 2) (h1 : ((b.getD 0 default).toNat : Int) = 1 ∨ ((b.getD 0 default).toNat : Int) = 5 ∨ ((b.getD 0 default).toNat : Int) = 6) (h9 : ¬ b.length < 9) : pV b = vaO ⟨(b.getD 0 default).toNat, num8 ((b.drop 1).take 8), []⟩ 9 := by
 unfold pV; rw [if_neg (show ¬ b.length < 2 by omega), if_neg h2, if_pos h1, if_neg h9]
theorem pV_o {b : Str} (h2 : ¬ ((b.getD 0 default).toNat : Int) = 2) (h1 : ¬ (((b.getD 0 default).toNat : Int) = 1 ∨ ((b.getD 0 default).toNat : Int) = 5 ∨ ((b.getD 0 default).toNat : Int) = 6)) (ht : ¬ txtK (b.getD 0 default).toNat) : pV b = none := by
 unfold pV; rw [if_neg h2, if_neg h1, if_neg ht]; simp
theorem pV_t {b : Str} (h : ¬ b.length < 2) (ht : txtK (b.getD 0 default).toNat) : pV b = (match pT (b.drop 1) with | none => none | some p => vaO ⟨(b.getD 0 default).toNat, 0, p.1⟩ (p.2 + 1)) := by
 have ht' := ht
 unfold txtK at ht'
 unfold pV; rw [if_neg h, if_neg (by omega), if_neg (by omega), if_pos ht]
theorem vaO_t {v : Va} {n : Nat} (h : VaP v) : vaO v n = some (v, n) := by unfold vaO; rw [bd_of h]; rfl
theorem vaO_f {v : Va} {n : Nat} (h : ¬ VaP v) : vaO v n = none := by unfold vaO; rw [bd_no h]; rfl
theorem k88s (b : Str) (hl : b.length ≤ 100000) (h0 : b.length < 2) : KOk cF 88 [bysA b] (oneR (pV b)) := by
 refine KOk.of cF_ok eF.g Try.func88 rfl (Nat.le_of_ble_eq_true rfl) fun w F => ?_
 have h0' : (b.length : Int) < 2 := by omega
 rw [pV_s h0]
 repeat' first | refine Go.seq ?_ | refine Go.region rfl ?_ | refine Ops.nil ?_ | refine Ops.val eF rfl rfl Zw (by first | exact Z1 | exact Z3 | exact Z6 | exact Y36) ?_ | refine Ops.rowAt eF 0 rfl rfl Zw rfl (Hop.alloc eF rfl rfl rfl) ?_ | refine Ops.unit eF rfl Zw (Hop.store eF rfl rfl rfl rfl rfl rfl) (ArrKeep.put rfl) ?_ | refine Go.condTt rfl Za ?_
 exact Zr
theorem k88_2 (b : Str) (hl : b.length ≤ 100000) (h0 : ¬ b.length < 2) (h2 : ((b.getD (Int.toNat 0) default).toNat : Int) = 2) : KOk cF 88 [bysA b] (oneR (pV b)) := by
 have h0' : ¬ (b.length : Int) < 2 := by omega
 have hc := (b.getD (Int.toNat 0) default).toNat_lt
 have hd := (b.getD (Int.toNat 1) default).toNat_lt
 rw [pV_2 h0 h2]
 have k1 : KOk cF 49 [.agg [.int .i64 ((b.getD (Int.toNat 0) default).toNat : Int), .int .i64 ((b.getD (Int.toNat 1) default).toNat : Int), sA []]] (.bool (bd (VaP ⟨2, (b.getD 1 default).toNat, []⟩))) := by
  rw [h2]; exact k29 ⟨2, (b.getD 1 default).toNat, []⟩ (Nat.zero_le _)
 by_cases hv : VaP ⟨2, (b.getD 1 default).toNat, []⟩
 ·rw [vaO_t hv]
  rw [bd_of hv] at k1
  refine KOk.of cF_ok eF.g Try.func88 rfl (Nat.le_of_ble_eq_true rfl) fun w F => ?_
  repeat' first | refine Go.seq ?_ | refine Go.region rfl ?_ | refine Ops.nil ?_ | refine Ops.val eF rfl rfl Zw (by first | exact Z1 | exact Z2 | exact Z3 | exact Y20 | exact Z4 | exact Y24 | exact Z5 | exact Z6 | exact Y36) ?_ | refine Ops.call eF rfl rfl Zw rfl rfl rfl rfl (k1) rfl ?_ | refine Ops.rowAt eF 0 rfl rfl Zw rfl (Hop.alloc eF rfl rfl rfl) ?_ | refine Ops.rowAt eF 1 rfl rfl Zw rfl (Hop.alloc eF rfl rfl rfl) ?_ | refine Ops.unit eF rfl Zw (Hop.store eF rfl rfl rfl rfl rfl rfl) (ArrKeep.put rfl) ?_ | refine Go.condF rfl ?_ | refine Go.condTt rfl Za ?_ | refine Go.condFt rfl Za ?_ | refine Go.block ?_ | refine Go.unblk ?_ | refine Go.skip ?_
  refine Go.retFc [_, _] rfl ⟨Hop.ldPG eF rfl rfl rfl rfl rfl rfl rfl, rfl, trivial⟩ ?_ rfl
  show AV.tup [.agg [.int .i64 ((b.getD (Int.toNat 0) default).toNat : Int), _, _], _] = AV.tup [.agg [.int .i64 2, _, _], _]
  rw [h2]; rfl
 ·rw [vaO_f hv]
  rw [bd_no hv] at k1
  refine KOk.of cF_ok eF.g Try.func88 rfl (Nat.le_of_ble_eq_true rfl) fun w F => ?_
  repeat' first | refine Go.seq ?_ | refine Go.region rfl ?_ | refine Ops.nil ?_ | refine Ops.val eF rfl rfl Zw (by first | exact Z1 | exact Z2 | exact Z3 | exact Y20 | exact Z4 | exact Y24 | exact Z5 | exact Z6 | exact Y36) ?_ | refine Ops.call eF rfl rfl Zw rfl rfl rfl rfl (k1) rfl ?_ | refine Ops.rowAt eF 0 rfl rfl Zw rfl (Hop.alloc eF rfl rfl rfl) ?_ | refine Ops.rowAt eF 1 rfl rfl Zw rfl (Hop.alloc eF rfl rfl rfl) ?_ | refine Ops.unit eF rfl Zw (Hop.store eF rfl rfl rfl rfl rfl rfl) (ArrKeep.put rfl) ?_ | refine Go.condT rfl ?_ | refine Go.condTt rfl Za ?_ | refine Go.condFt rfl Za ?_ | refine Go.block ?_ | refine Go.unblk ?_ | refine Go.skip ?_
  exact Zr
theorem k88_n (b : Str) (hl : b.length ≤ 100000) (h0 : ¬ b.length < 2) (h2 : ¬ ((b.getD (Int.toNat 0) default).toNat : Int) = 2) (h1 : ((b.getD (Int.toNat 0) default).toNat : Int) = 1 ∨ ((b.getD (Int.toNat 0) default).toNat : Int) = 5 ∨ ((b.getD (Int.toNat 0) default).toNat : Int) = 6) : KOk cF 88 [bysA b] (oneR (pV b)) := by
 have h0' : ¬ (b.length : Int) < 2 := by omega
 have hc := (b.getD (Int.toNat 0) default).toNat_lt
 by_cases h9 : b.length < 9
 ·have h9' : (b.length : Int) < 9 := by omega
  rw [pV_ns h2 h1 h9]
  refine KOk.of cF_ok eF.g Try.func88 rfl (Nat.le_of_ble_eq_true rfl) fun w F => ?_
  repeat' first | refine Go.seq ?_ | refine Go.region rfl ?_ | refine Ops.nil ?_ | refine Ops.val eF rfl rfl Zw (by first | exact Z1 | exact Z3 | exact Y20 | exact Z4 | exact Y24 | exact Z5 | exact Z6 | exact Y36) ?_ | refine Ops.rowAt eF 0 rfl rfl Zw rfl (Hop.alloc eF rfl rfl rfl) ?_ | refine Ops.rowAt eF 1 rfl rfl Zw rfl (Hop.alloc eF rfl rfl rfl) ?_ | refine Ops.unit eF rfl Zw (Hop.store eF rfl rfl rfl rfl rfl rfl) (ArrKeep.put rfl) ?_ | refine Go.condT rfl ?_ | refine Go.condTt rfl Za ?_ | refine Go.condFt rfl Za ?_ | refine Go.condPt rfl (fun _ => ?_) (fun _ => ?_) | refine Go.block ?_ | refine Go.skip ?_
  all_goals first
   | exact Zr
   | (exfalso; omega)
 ·have h9' : ¬ (b.length : Int) < 9 := by omega
  rw [pV_n h2 h1 h9]
  have k2 : KOk cF 89 [bysA (b.drop (Int.toNat 1))] (.int .i64 (num8 ((b.drop 1).take 8))) := k89 (b.drop 1) (by rw [List.length_drop]; omega) (by rw [List.length_drop]; omega)
  have k1 := k29 ⟨(b.getD 0 default).toNat, num8 ((b.drop 1).take 8), []⟩ (Nat.zero_le _)
  generalize num8 ((b.drop 1).take 8) = y at *
  by_cases hv : VaP ⟨(b.getD 0 default).toNat, y, []⟩
  ·rw [vaO_t hv]
   rw [bd_of hv] at k1
   refine KOk.of cF_ok eF.g Try.func88 rfl (Nat.le_of_ble_eq_true rfl) fun w F => ?_
   repeat' first | refine Go.seq ?_ | refine Go.region rfl ?_ | refine Ops.nil ?_ | refine Ops.val eF rfl rfl Zw (by first | exact Z1 | exact Z2 | exact Z3 | exact Y20 | exact Z4 | exact Y24 | exact Z5 | exact Z6 | exact Y36 | exact Y41) ?_ | refine Ops.call eF rfl rfl Zw rfl rfl rfl rfl (k1) rfl ?_ | refine Ops.call eF rfl rfl Zw rfl rfl rfl rfl (k2) rfl ?_ | refine Ops.rowAt eF 0 rfl rfl Zw rfl (Hop.alloc eF rfl rfl rfl) ?_ | refine Ops.rowAt eF 1 rfl rfl Zw rfl (Hop.alloc eF rfl rfl rfl) ?_ | refine Ops.unit eF rfl Zw (Hop.store eF rfl rfl rfl rfl rfl rfl) (ArrKeep.put rfl) ?_ | refine Go.condT rfl ?_ | refine Go.condF rfl ?_ | refine Go.condFt rfl Za ?_ | refine Go.condPt rfl (fun _ => ?_) (fun _ => ?_) | refine Go.block ?_ | refine Go.unblk ?_ | refine Go.skip ?_
   all_goals first
    | exact Zr
    | (exfalso; omega)
  ·rw [vaO_f hv]
   rw [bd_no hv] at k1
   refine KOk.of cF_ok eF.g Try.func88 rfl (Nat.le_of_ble_eq_true rfl) fun w F => ?_
   repeat' first | refine Go.seq ?_ | refine Go.region rfl ?_ | refine Ops.nil ?_ | refine Ops.val eF rfl rfl Zw (by first | exact Z1 | exact Z2 | exact Z3 | exact Y20 | exact Z4 | exact Y24 | exact Z5 | exact Z6 | exact Y36 | exact Y41) ?_ | refine Ops.call eF rfl rfl Zw rfl rfl rfl rfl (k1) rfl ?_ | refine Ops.call eF rfl rfl Zw rfl rfl rfl rfl (k2) rfl ?_ | refine Ops.rowAt eF 0 rfl rfl Zw rfl (Hop.alloc eF rfl rfl rfl) ?_ | refine Ops.rowAt eF 1 rfl rfl Zw rfl (Hop.alloc eF rfl rfl rfl) ?_ | refine Ops.unit eF rfl Zw (Hop.store eF rfl rfl rfl rfl rfl rfl) (ArrKeep.put rfl) ?_ | refine Go.condT rfl ?_ | refine Go.condFt rfl Za ?_ | refine Go.condPt rfl (fun _ => ?_) (fun _ => ?_) | refine Go.block ?_ | refine Go.unblk ?_ | refine Go.skip ?_
   all_goals first
    | exact Zr
    | (exfalso; omega)
theorem k88_o (b : Str) (hl : b.length ≤ 100000) (h0 : ¬ b.length < 2) (h2 : ¬ ((b.getD (Int.toNat 0) default).toNat : Int) = 2) (h1 : ¬ (((b.getD (Int.toNat 0) default).toNat : Int) = 1 ∨ ((b.getD (Int.toNat 0) default).toNat : Int) = 5 ∨ ((b.getD (Int.toNat 0) default).toNat : Int) = 6)) (ht : ¬ txtK (b.getD (Int.toNat 0) default).toNat) : KOk cF 88 [bysA b] (oneR (pV b)) := by
 have h0' : ¬ (b.length : Int) < 2 := by omega
 have hc := (b.getD (Int.toNat 0) default).toNat_lt
 rw [pV_o h2 h1 ht]
 unfold txtK at ht
 have g1 : ¬ ((b.getD (Int.toNat 0) default).toNat : Int) = 1 := by omega
 have g5 : ¬ ((b.getD (Int.toNat 0) default).toNat : Int) = 5 := by omega
 have g6 : ¬ ((b.getD (Int.toNat 0) default).toNat : Int) = 6 := by omega
 have g3 : ¬ ((b.getD (Int.toNat 0) default).toNat : Int) = 3 := by omega
 have g4 : ¬ ((b.getD (Int.toNat 0) default).toNat : Int) = 4 := by omega
 have g7 : ¬ ((b.getD (Int.toNat 0) default).toNat : Int) = 7 := by omega
 refine KOk.of cF_ok eF.g Try.func88 rfl (Nat.le_of_ble_eq_true rfl) fun w F => ?_
 repeat' first | refine Go.seq ?_ | refine Go.region rfl ?_ | refine Ops.nil ?_ | refine Ops.val eF rfl rfl Zw (by first | exact Z1 | exact Z3 | exact Y20 | exact Z4 | exact Y24 | exact Z5 | exact Z6 | exact Y36) ?_ | refine Ops.rowAt eF 0 rfl rfl Zw rfl (Hop.alloc eF rfl rfl rfl) ?_ | refine Ops.rowAt eF 1 rfl rfl Zw rfl (Hop.alloc eF rfl rfl rfl) ?_ | refine Ops.unit eF rfl Zw (Hop.store eF rfl rfl rfl rfl rfl rfl) (ArrKeep.put rfl) ?_ | refine Go.condFt rfl Za ?_ | refine Go.block ?_ | refine Go.skip ?_
 exact Zr
end Go.Px.Fe
end
section
set_option maxHeartbeats 4000000
set_option maxRecDepth 20000
namespace Go.Px.Fe
open Go.Proofs Go.Px.Fs
attribute [local irreducible] Go.Px.KOk
theorem pT_short {b : Str} (h : b.length ≤ 1) : pT b = none := by
 match b, h with
 | [], _ => rfl
 | [_], _ => rfl
theorem drop2 {b : Str} {n : Nat} (h : n + 1 < b.length) : b.drop n = b.getD n default :: b.getD (n + 1) default :: b.drop (n + 2) := by
 rw [drop_at (show n < b.length by omega), drop_at h]
theorem k88_t (b : Str) (hl : b.length ≤ 100000) (h0 : ¬ b.length < 2) (ht : txtK (b.getD (Int.toNat 0) default).toNat) : KOk cF 88 [bysA b] (oneR (pV b)) := by
 have h0' : ¬ (b.length : Int) < 2 := by omega
 have hc := (b.getD (Int.toNat 0) default).toNat_lt
 have ht' := ht
 unfold txtK at ht'
 have g2 : ¬ ((b.getD (Int.toNat 0) default).toNat : Int) = 2 := by omega
 have g1 : ¬ ((b.getD (Int.toNat 0) default).toNat : Int) = 1 := by omega
 have g5 : ¬ ((b.getD (Int.toNat 0) default).toNat : Int) = 5 := by omega
 have g6 : ¬ ((b.getD (Int.toNat 0) default).toNat : Int) = 6 := by omega
 rw [pV_t h0 ht]
 refine KOk.of cF_ok eF.g Try.func88 rfl (Nat.le_of_ble_eq_true rfl) fun w F => ?_
 rcases ht' with q | q | q
 ·repeat' first | refine Go.seq ?_ | refine Go.region rfl ?_ | refine Ops.nil ?_ | refine Ops.val eF rfl rfl Zw (by first | exact Z1 | exact Z3 | exact Y20 | exact Z4 | exact Y24 | exact Z5 | exact Z6 | exact Y36) ?_ | refine Ops.rowAt eF 0 rfl rfl Zw rfl (Hop.alloc eF rfl rfl rfl) ?_ | refine Ops.rowAt eF 1 rfl rfl Zw rfl (Hop.alloc eF rfl rfl rfl) ?_ | refine Ops.unit eF rfl Zw (Hop.store eF rfl rfl rfl rfl rfl rfl) (ArrKeep.put rfl) ?_ | refine Go.condT rfl ?_ | refine Go.condTt rfl Za ?_ | refine Go.condFt rfl Za ?_ | refine Go.block ?_ | refine Go.skip ?_
  refine Go.change (Chg.tokAt 2 6 5 1 rfl rfl) ?_
  refine Go.toHQ (N := 3) (bs := [.row ⟨56, 3, .leaf, [.int .i64 0, .int .i64 0, .str []], none⟩, .row ⟨56, 3, .leaf, [.int .i64 ((b.getD (Int.toNat 0) default).toNat : Int), .int .i64 0, .str []], none⟩, .arr 5 1 0 []]) (L' := [(0, bysA b), (2, .ptr 0 0), (4, .ptr 1 0), (5, .int .i64 (1 : Nat)), (6, .own 2 0 1)]) ?_ rfl eF.g Zt rfl rfl Zg Zl rfl rfl
  refine Go.loop (fun q : Nat × Str => [(0, bysA b), (2, .ptr 0 0), (4, .ptr 1 0), (5, .int .i64 q.1), (6, .own 2 q.2.length 1)]) (fun q => hq 3 [.row ⟨56, 3, .leaf, [.int .i64 0, .int .i64 0, .str []], none⟩, .row ⟨56, 3, .leaf, [.int .i64 ((b.getD (Int.toNat 0) default).toNat : Int), .int .i64 0, .str []], none⟩, .arr 5 1 q.2.length (q.2.flatMap encB)]) (fun q => 1 ≤ q.1 ∧ q.1 ≤ b.length ∧ q.2.length ≤ q.1 ∧ pT (b.drop 1) = (pT (b.drop q.1)).map (fun p => (q.2 ++ p.1, p.2 + (q.1 - 1)))) (fun q => b.length - q.1) (1, []) ⟨Nat.le_refl _, by show 1 ≤ b.length; omega, Nat.zero_le _, by show _ = Option.map (fun p => p) _; simp⟩ Zt rfl (fun q hP ih => ?_)
  obtain ⟨n, s⟩ := q
  obtain ⟨hn1, hn, hs, hP⟩ := hP
  simp only at hn1 hn hs hP ⊢
  clear q
  by_cases c1 : (n : Int) + 1 < (b.length : Int)
  ·have hd2 := drop2 (b := b) (n := n) (by omega)
   rw [hd2] at hP
   have hcn := (b.getD (n : Int).toNat default).toNat_lt
   by_cases cz : ((b.getD (n : Int).toNat default).toNat : Int) = 0
   ·have cz' : (b.getD n default).toNat = 0 := by rw [Int.toNat_natCast] at cz; omega
    by_cases d1 : ((b.getD ((n : Int) + 1).toNat default).toNat : Int) = 1
    ·have d1' : (b.getD (n + 1) default).toNat = 1 := by rw [show ((n : Int) + 1).toNat = n + 1 by omega] at d1; omega
     rw [pT_1 cz' d1'] at hP
     rw [hP]
     simp only [Option.map_some, List.append_nil]
     have k1 := k29 ⟨((b.getD (Int.toNat 0) default).toNat : Int), 0, s⟩ (by show s.length ≤ _; omega)
     have hx : ¬ (b.length : Int) ≤ (n : Int) + 1 := by omega
     by_cases hv : VaP ⟨((b.getD (Int.toNat 0) default).toNat : Int), 0, s⟩
     ·rw [show vaO ⟨((b.getD 0 default).toNat : Int), 0, s⟩ (2 + (n - 1) + 1) = some (⟨((b.getD 0 default).toNat : Int), 0, s⟩, n + 2) from by rw [show 2 + (n - 1) + 1 = n + 2 by omega]; exact vaO_t hv]
      rw [bd_of hv] at k1
      repeat' first | refine Go.seq ?_ | refine Go.region rfl ?_ | refine Ops.nil ?_ | refine Go.condNp rfl Za ?_ | refine Ops.frzMv eF 102 rfl rfl rfl Zw Z1 rfl Zi rfl rfl rfl rfl ?_ | refine Ops.val eF rfl rfl Zw Zs ?_ | refine Ops.val eF rfl rfl Zw (by first | exact Z1 | exact Z2 | exact Z3 | exact Y14 | exact Z4 | exact Y24 | exact Z5 | exact Z6) ?_ | refine Ops.gT rfl rfl Za ?_ | refine Ops.call eF rfl rfl Zw rfl rfl rfl rfl (k1) rfl ?_ | refine Ops.unit eF rfl Zw (Hop.store eF rfl rfl rfl rfl rfl rfl) (ArrKeep.put rfl) ?_ | refine Go.condF rfl ?_ | refine Go.condFt rfl Za ?_ | refine Go.unblk ?_ | refine Go.skip ?_ | refine Go.exit rfl ?_
      exact Zr
     ·rw [show vaO ⟨((b.getD 0 default).toNat : Int), 0, s⟩ (2 + (n - 1) + 1) = _ from vaO_f hv]
      rw [bd_no hv] at k1
      repeat' first | refine Go.seq ?_ | refine Go.region rfl ?_ | refine Ops.nil ?_ | refine Go.condNp rfl Za ?_ | refine Ops.frzMv eF 102 rfl rfl rfl Zw Z1 rfl Zi rfl rfl rfl rfl ?_ | refine Ops.val eF rfl rfl Zw Zs ?_ | refine Ops.val eF rfl rfl Zw (by first | exact Z1 | exact Z2 | exact Z3 | exact Y14 | exact Z4 | exact Y24 | exact Z5 | exact Z6 | exact Y36) ?_ | refine Ops.gT rfl rfl Za ?_ | refine Ops.call eF rfl rfl Zw rfl rfl rfl rfl (k1) rfl ?_ | refine Ops.unit eF rfl Zw (Hop.store eF rfl rfl rfl rfl rfl rfl) (ArrKeep.put rfl) ?_ | refine Go.condT rfl ?_ | refine Go.condFt rfl Za ?_ | refine Go.unblk ?_ | refine Go.skip ?_ | refine Go.exit rfl ?_
      exact Zr
    ·have d1' : ¬ (b.getD (n + 1) default).toNat = 1 := by rw [show ((n : Int) + 1).toNat = n + 1 by omega] at d1; omega
     by_cases d2 : ((b.getD ((n : Int) + 1).toNat default).toNat : Int) = 255
     ·have d2' : (b.getD (n + 1) default).toNat = 255 := by rw [show ((n : Int) + 1).toNat = n + 1 by omega] at d2; omega
      rw [pT_255 cz' d2'] at hP
      have g := ih (n + 2, s ++ [b.getD n default]) ⟨by show 1 ≤ n + 2; omega, by show n + 2 ≤ _; omega, by show (s ++ [b.getD n default]).length ≤ n + 2; rw [List.length_append]; show s.length + 1 ≤ _; omega, by rw [hP, Option.map_map]; congr 1; funext p; show (_, _) = (_, _); rw [List.append_assoc]; congr 1; show p.2 + 2 + (n - 1) = p.2 + (n + 2 - 1); omega⟩ (by show _ < _; omega)
      simp only [List.length_append, List.length_cons, List.length_nil, Nat.zero_add, List.flatMap_append, List.flatMap_cons, List.flatMap_nil, List.append_nil, ← List.append_assoc, show ((n + 2 : Nat) : Int) = (n : Int) + 1 + 1 by omega] at g
      repeat' first | refine Go.seq ?_ | refine Go.region rfl ?_ | refine Ops.nil ?_ | refine Go.condNp rfl Za ?_ | refine Go.condNn rfl Za ?_ | refine Ops.val eF rfl rfl Zw (by first | exact Z1 | exact Z2 | exact Z3 | exact Y14 | exact Y24 | exact Z5 | exact Z6) ?_ | refine Ops.gT rfl rfl Za ?_ | refine Ops.data eF rfl rfl Zw rfl (Hop.bslice eF rfl rfl rfl rfl rfl rfl rfl rfl rfl rfl rfl) rfl rfl ?_ | refine Ops.appendE eF rfl rfl Zw rfl rfl rfl rfl rfl rfl rfl rfl rfl rfl rfl rfl rfl rfl rfl rfl Zi rfl rfl rfl rfl rfl Zz (by omega) ?_ | refine Go.condTt rfl Za ?_ | refine Go.block ?_ | refine Go.unblk ?_ | refine Go.skip ?_
      try simp only [Int.toNat_natCast]
      exact Go.toQ g rfl eF.g Zt rfl rfl Zg Zl rfl rfl
     ·have d2' : ¬ (b.getD (n + 1) default).toNat = 255 := by rw [show ((n : Int) + 1).toNat = n + 1 by omega] at d2; omega
      rw [pT_n cz' d1' d2'] at hP
      rw [show pT (b.drop 1) = none from hP]
      repeat' first | refine Go.seq ?_ | refine Go.region rfl ?_ | refine Ops.nil ?_ | refine Go.condNn rfl Za ?_ | refine Ops.val eF rfl rfl Zw (by first | exact Z1 | exact Z2 | exact Z3 | exact Y14 | exact Y24 | exact Z5 | exact Z6 | exact Y36) ?_ | refine Ops.gT rfl rfl Za ?_ | refine Ops.unit eF rfl Zw (Hop.store eF rfl rfl rfl rfl rfl rfl) (ArrKeep.put rfl) ?_ | refine Go.block ?_ | refine Go.skip ?_
      exact Zr
   ·have cz' : ¬ (b.getD n default).toNat = 0 := by rw [Int.toNat_natCast] at cz; omega
    rw [pT_c cz', show b.getD (n + 1) default :: b.drop (n + 2) = b.drop (n + 1) from (drop_at (by omega)).symm] at hP
    have g := ih (n + 1, s ++ [b.getD n default]) ⟨by show 1 ≤ n + 1; omega, by show n + 1 ≤ _; omega, by show (s ++ [b.getD n default]).length ≤ n + 1; rw [List.length_append]; show s.length + 1 ≤ _; omega, by rw [hP, Option.map_map]; congr 1; funext p; show (_, _) = (_, _); rw [List.append_assoc]; congr 1; show p.2 + 1 + (n - 1) = p.2 + (n + 1 - 1); omega⟩ (by show _ < _; omega)
    simp only [List.length_append, List.length_cons, List.length_nil, Nat.zero_add, List.flatMap_append, List.flatMap_cons, List.flatMap_nil, List.append_nil, ← List.append_assoc, show ((n + 1 : Nat) : Int) = (n : Int) + 1 by omega] at g
    repeat' first | refine Go.seq ?_ | refine Go.region rfl ?_ | refine Ops.nil ?_ | refine Ops.val eF rfl rfl Zw (by first | exact Z1 | exact Z2 | exact Z3 | exact Y14 | exact Y24 | exact Z5 | exact Z6) ?_ | refine Ops.skip rfl rfl Zn ?_ | refine Ops.gT rfl rfl Za ?_ | refine Ops.gF rfl rfl Za ?_ | refine Ops.data eF rfl rfl Zw rfl (Hop.bslice eF rfl rfl rfl rfl rfl rfl rfl rfl rfl rfl rfl) rfl rfl ?_ | refine Ops.appendE eF rfl rfl Zw rfl rfl rfl rfl rfl rfl rfl rfl rfl rfl rfl rfl rfl rfl rfl rfl Zi rfl rfl rfl rfl rfl Zz (by omega) ?_ | refine Go.condT rfl ?_ | refine Go.condF rfl ?_ | refine Go.condFt rfl Za ?_ | refine Go.block ?_ | refine Go.unblk ?_ | refine Go.skip ?_
    try simp only [Int.toNat_natCast]
    exact Go.toQ g rfl eF.g Zt rfl rfl Zg Zl rfl rfl
  ·have hsh : (b.drop n).length ≤ 1 := by rw [List.length_drop]; omega
   rw [pT_short hsh] at hP
   rw [show pT (b.drop 1) = none from hP]
   have hx : (b.length : Int) ≤ (n : Int) + 1 := by omega
   repeat' first | refine Go.seq ?_ | refine Go.region rfl ?_ | refine Ops.nil ?_ | refine Ops.val eF rfl rfl Zw (by first | exact Z1 | exact Z2 | exact Z3 | exact Y14 | exact Z6 | exact Y36) ?_ | refine Ops.skip rfl rfl Zn ?_ | refine Ops.gF rfl rfl Za ?_ | refine Ops.unit eF rfl Zw (Hop.store eF rfl rfl rfl rfl rfl rfl) (ArrKeep.put rfl) ?_ | refine Go.condF rfl ?_ | refine Go.condTt rfl Za ?_ | refine Go.exit rfl ?_
   exact Zr
 ·have g3 : ¬ ((b.getD (Int.toNat 0) default).toNat : Int) = 3 := by omega
  repeat' first | refine Go.seq ?_ | refine Go.region rfl ?_ | refine Ops.nil ?_ | refine Ops.val eF rfl rfl Zw (by first | exact Z1 | exact Z3 | exact Y20 | exact Z4 | exact Y24 | exact Z5 | exact Z6 | exact Y36) ?_ | refine Ops.rowAt eF 0 rfl rfl Zw rfl (Hop.alloc eF rfl rfl rfl) ?_ | refine Ops.rowAt eF 1 rfl rfl Zw rfl (Hop.alloc eF rfl rfl rfl) ?_ | refine Ops.unit eF rfl Zw (Hop.store eF rfl rfl rfl rfl rfl rfl) (ArrKeep.put rfl) ?_ | refine Go.condT rfl ?_ | refine Go.condTt rfl Za ?_ | refine Go.condFt rfl Za ?_ | refine Go.block ?_ | refine Go.skip ?_
  refine Go.change (Chg.tokAt 2 6 5 1 rfl rfl) ?_
  refine Go.toHQ (N := 3) (bs := [.row ⟨56, 3, .leaf, [.int .i64 0, .int .i64 0, .str []], none⟩, .row ⟨56, 3, .leaf, [.int .i64 ((b.getD (Int.toNat 0) default).toNat : Int), .int .i64 0, .str []], none⟩, .arr 5 1 0 []]) (L' := [(0, bysA b), (2, .ptr 0 0), (4, .ptr 1 0), (5, .int .i64 (1 : Nat)), (6, .own 2 0 1)]) ?_ rfl eF.g Zt rfl rfl Zg Zl rfl rfl
  refine Go.loop (fun q : Nat × Str => [(0, bysA b), (2, .ptr 0 0), (4, .ptr 1 0), (5, .int .i64 q.1), (6, .own 2 q.2.length 1)]) (fun q => hq 3 [.row ⟨56, 3, .leaf, [.int .i64 0, .int .i64 0, .str []], none⟩, .row ⟨56, 3, .leaf, [.int .i64 ((b.getD (Int.toNat 0) default).toNat : Int), .int .i64 0, .str []], none⟩, .arr 5 1 q.2.length (q.2.flatMap encB)]) (fun q => 1 ≤ q.1 ∧ q.1 ≤ b.length ∧ q.2.length ≤ q.1 ∧ pT (b.drop 1) = (pT (b.drop q.1)).map (fun p => (q.2 ++ p.1, p.2 + (q.1 - 1)))) (fun q => b.length - q.1) (1, []) ⟨Nat.le_refl _, by show 1 ≤ b.length; omega, Nat.zero_le _, by show _ = Option.map (fun p => p) _; simp⟩ Zt rfl (fun q hP ih => ?_)
  obtain ⟨n, s⟩ := q
  obtain ⟨hn1, hn, hs, hP⟩ := hP
  simp only at hn1 hn hs hP ⊢
  clear q
  by_cases c1 : (n : Int) + 1 < (b.length : Int)
  ·have hd2 := drop2 (b := b) (n := n) (by omega)
   rw [hd2] at hP
   have hcn := (b.getD (n : Int).toNat default).toNat_lt
   by_cases cz : ((b.getD (n : Int).toNat default).toNat : Int) = 0
   ·have cz' : (b.getD n default).toNat = 0 := by rw [Int.toNat_natCast] at cz; omega
    by_cases d1 : ((b.getD ((n : Int) + 1).toNat default).toNat : Int) = 1
    ·have d1' : (b.getD (n + 1) default).toNat = 1 := by rw [show ((n : Int) + 1).toNat = n + 1 by omega] at d1; omega
     rw [pT_1 cz' d1'] at hP
     rw [hP]
     simp only [Option.map_some, List.append_nil]
     have k1 := k29 ⟨((b.getD (Int.toNat 0) default).toNat : Int), 0, s⟩ (by show s.length ≤ _; omega)
     have hx : ¬ (b.length : Int) ≤ (n : Int) + 1 := by omega
     by_cases hv : VaP ⟨((b.getD (Int.toNat 0) default).toNat : Int), 0, s⟩
     ·rw [show vaO ⟨((b.getD 0 default).toNat : Int), 0, s⟩ (2 + (n - 1) + 1) = some (⟨((b.getD 0 default).toNat : Int), 0, s⟩, n + 2) from by rw [show 2 + (n - 1) + 1 = n + 2 by omega]; exact vaO_t hv]
      rw [bd_of hv] at k1
      repeat' first | refine Go.seq ?_ | refine Go.region rfl ?_ | refine Ops.nil ?_ | refine Go.condNp rfl Za ?_ | refine Ops.frzMv eF 102 rfl rfl rfl Zw Z1 rfl Zi rfl rfl rfl rfl ?_ | refine Ops.val eF rfl rfl Zw Zs ?_ | refine Ops.val eF rfl rfl Zw (by first | exact Z1 | exact Z2 | exact Z3 | exact Y14 | exact Z4 | exact Y24 | exact Z5 | exact Z6) ?_ | refine Ops.gT rfl rfl Za ?_ | refine Ops.call eF rfl rfl Zw rfl rfl rfl rfl (k1) rfl ?_ | refine Ops.unit eF rfl Zw (Hop.store eF rfl rfl rfl rfl rfl rfl) (ArrKeep.put rfl) ?_ | refine Go.condF rfl ?_ | refine Go.condFt rfl Za ?_ | refine Go.unblk ?_ | refine Go.skip ?_ | refine Go.exit rfl ?_
      exact Zr
     ·rw [show vaO ⟨((b.getD 0 default).toNat : Int), 0, s⟩ (2 + (n - 1) + 1) = _ from vaO_f hv]
      rw [bd_no hv] at k1
      repeat' first | refine Go.seq ?_ | refine Go.region rfl ?_ | refine Ops.nil ?_ | refine Go.condNp rfl Za ?_ | refine Ops.frzMv eF 102 rfl rfl rfl Zw Z1 rfl Zi rfl rfl rfl rfl ?_ | refine Ops.val eF rfl rfl Zw Zs ?_ | refine Ops.val eF rfl rfl Zw (by first | exact Z1 | exact Z2 | exact Z3 | exact Y14 | exact Z4 | exact Y24 | exact Z5 | exact Z6 | exact Y36) ?_ | refine Ops.gT rfl rfl Za ?_ | refine Ops.call eF rfl rfl Zw rfl rfl rfl rfl (k1) rfl ?_ | refine Ops.unit eF rfl Zw (Hop.store eF rfl rfl rfl rfl rfl rfl) (ArrKeep.put rfl) ?_ | refine Go.condT rfl ?_ | refine Go.condFt rfl Za ?_ | refine Go.unblk ?_ | refine Go.skip ?_ | refine Go.exit rfl ?_
      exact Zr
    ·have d1' : ¬ (b.getD (n + 1) default).toNat = 1 := by rw [show ((n : Int) + 1).toNat = n + 1 by omega] at d1; omega
     by_cases d2 : ((b.getD ((n : Int) + 1).toNat default).toNat : Int) = 255
     ·have d2' : (b.getD (n + 1) default).toNat = 255 := by rw [show ((n : Int) + 1).toNat = n + 1 by omega] at d2; omega
      rw [pT_255 cz' d2'] at hP
      have g := ih (n + 2, s ++ [b.getD n default]) ⟨by show 1 ≤ n + 2; omega, by show n + 2 ≤ _; omega, by show (s ++ [b.getD n default]).length ≤ n + 2; rw [List.length_append]; show s.length + 1 ≤ _; omega, by rw [hP, Option.map_map]; congr 1; funext p; show (_, _) = (_, _); rw [List.append_assoc]; congr 1; show p.2 + 2 + (n - 1) = p.2 + (n + 2 - 1); omega⟩ (by show _ < _; omega)
      simp only [List.length_append, List.length_cons, List.length_nil, Nat.zero_add, List.flatMap_append, List.flatMap_cons, List.flatMap_nil, List.append_nil, ← List.append_assoc, show ((n + 2 : Nat) : Int) = (n : Int) + 1 + 1 by omega] at g
      repeat' first | refine Go.seq ?_ | refine Go.region rfl ?_ | refine Ops.nil ?_ | refine Go.condNp rfl Za ?_ | refine Go.condNn rfl Za ?_ | refine Ops.val eF rfl rfl Zw (by first | exact Z1 | exact Z2 | exact Z3 | exact Y14 | exact Y24 | exact Z5 | exact Z6) ?_ | refine Ops.gT rfl rfl Za ?_ | refine Ops.data eF rfl rfl Zw rfl (Hop.bslice eF rfl rfl rfl rfl rfl rfl rfl rfl rfl rfl rfl) rfl rfl ?_ | refine Ops.appendE eF rfl rfl Zw rfl rfl rfl rfl rfl rfl rfl rfl rfl rfl rfl rfl rfl rfl rfl rfl Zi rfl rfl rfl rfl rfl Zz (by omega) ?_ | refine Go.condTt rfl Za ?_ | refine Go.block ?_ | refine Go.unblk ?_ | refine Go.skip ?_
      try simp only [Int.toNat_natCast]
      exact Go.toQ g rfl eF.g Zt rfl rfl Zg Zl rfl rfl
     ·have d2' : ¬ (b.getD (n + 1) default).toNat = 255 := by rw [show ((n : Int) + 1).toNat = n + 1 by omega] at d2; omega
      rw [pT_n cz' d1' d2'] at hP
      rw [show pT (b.drop 1) = none from hP]
      repeat' first | refine Go.seq ?_ | refine Go.region rfl ?_ | refine Ops.nil ?_ | refine Go.condNn rfl Za ?_ | refine Ops.val eF rfl rfl Zw (by first | exact Z1 | exact Z2 | exact Z3 | exact Y14 | exact Y24 | exact Z5 | exact Z6 | exact Y36) ?_ | refine Ops.gT rfl rfl Za ?_ | refine Ops.unit eF rfl Zw (Hop.store eF rfl rfl rfl rfl rfl rfl) (ArrKeep.put rfl) ?_ | refine Go.block ?_ | refine Go.skip ?_
      exact Zr
   ·have cz' : ¬ (b.getD n default).toNat = 0 := by rw [Int.toNat_natCast] at cz; omega
    rw [pT_c cz', show b.getD (n + 1) default :: b.drop (n + 2) = b.drop (n + 1) from (drop_at (by omega)).symm] at hP
    have g := ih (n + 1, s ++ [b.getD n default]) ⟨by show 1 ≤ n + 1; omega, by show n + 1 ≤ _; omega, by show (s ++ [b.getD n default]).length ≤ n + 1; rw [List.length_append]; show s.length + 1 ≤ _; omega, by rw [hP, Option.map_map]; congr 1; funext p; show (_, _) = (_, _); rw [List.append_assoc]; congr 1; show p.2 + 1 + (n - 1) = p.2 + (n + 1 - 1); omega⟩ (by show _ < _; omega)
    simp only [List.length_append, List.length_cons, List.length_nil, Nat.zero_add, List.flatMap_append, List.flatMap_cons, List.flatMap_nil, List.append_nil, ← List.append_assoc, show ((n + 1 : Nat) : Int) = (n : Int) + 1 by omega] at g
    repeat' first | refine Go.seq ?_ | refine Go.region rfl ?_ | refine Ops.nil ?_ | refine Ops.val eF rfl rfl Zw (by first | exact Z1 | exact Z2 | exact Z3 | exact Y14 | exact Y24 | exact Z5 | exact Z6) ?_ | refine Ops.skip rfl rfl Zn ?_ | refine Ops.gT rfl rfl Za ?_ | refine Ops.gF rfl rfl Za ?_ | refine Ops.data eF rfl rfl Zw rfl (Hop.bslice eF rfl rfl rfl rfl rfl rfl rfl rfl rfl rfl rfl) rfl rfl ?_ | refine Ops.appendE eF rfl rfl Zw rfl rfl rfl rfl rfl rfl rfl rfl rfl rfl rfl rfl rfl rfl rfl rfl Zi rfl rfl rfl rfl rfl Zz (by omega) ?_ | refine Go.condT rfl ?_ | refine Go.condF rfl ?_ | refine Go.condFt rfl Za ?_ | refine Go.block ?_ | refine Go.unblk ?_ | refine Go.skip ?_
    try simp only [Int.toNat_natCast]
    exact Go.toQ g rfl eF.g Zt rfl rfl Zg Zl rfl rfl
  ·have hsh : (b.drop n).length ≤ 1 := by rw [List.length_drop]; omega
   rw [pT_short hsh] at hP
   rw [show pT (b.drop 1) = none from hP]
   have hx : (b.length : Int) ≤ (n : Int) + 1 := by omega
   repeat' first | refine Go.seq ?_ | refine Go.region rfl ?_ | refine Ops.nil ?_ | refine Ops.val eF rfl rfl Zw (by first | exact Z1 | exact Z2 | exact Z3 | exact Y14 | exact Z6 | exact Y36) ?_ | refine Ops.skip rfl rfl Zn ?_ | refine Ops.gF rfl rfl Za ?_ | refine Ops.unit eF rfl Zw (Hop.store eF rfl rfl rfl rfl rfl rfl) (ArrKeep.put rfl) ?_ | refine Go.condF rfl ?_ | refine Go.condTt rfl Za ?_ | refine Go.exit rfl ?_
   exact Zr
 ·have g3 : ¬ ((b.getD (Int.toNat 0) default).toNat : Int) = 3 := by omega
  have g4 : ¬ ((b.getD (Int.toNat 0) default).toNat : Int) = 4 := by omega
  repeat' first | refine Go.seq ?_ | refine Go.region rfl ?_ | refine Ops.nil ?_ | refine Ops.val eF rfl rfl Zw (by first | exact Z1 | exact Z3 | exact Y20 | exact Z4 | exact Y24 | exact Z5 | exact Z6 | exact Y36) ?_ | refine Ops.rowAt eF 0 rfl rfl Zw rfl (Hop.alloc eF rfl rfl rfl) ?_ | refine Ops.rowAt eF 1 rfl rfl Zw rfl (Hop.alloc eF rfl rfl rfl) ?_ | refine Ops.unit eF rfl Zw (Hop.store eF rfl rfl rfl rfl rfl rfl) (ArrKeep.put rfl) ?_ | refine Go.condTt rfl Za ?_ | refine Go.condFt rfl Za ?_ | refine Go.block ?_ | refine Go.skip ?_
  refine Go.change (Chg.tokAt 2 6 5 1 rfl rfl) ?_
  refine Go.toHQ (N := 3) (bs := [.row ⟨56, 3, .leaf, [.int .i64 0, .int .i64 0, .str []], none⟩, .row ⟨56, 3, .leaf, [.int .i64 ((b.getD (Int.toNat 0) default).toNat : Int), .int .i64 0, .str []], none⟩, .arr 5 1 0 []]) (L' := [(0, bysA b), (2, .ptr 0 0), (4, .ptr 1 0), (5, .int .i64 (1 : Nat)), (6, .own 2 0 1)]) ?_ rfl eF.g Zt rfl rfl Zg Zl rfl rfl
  refine Go.loop (fun q : Nat × Str => [(0, bysA b), (2, .ptr 0 0), (4, .ptr 1 0), (5, .int .i64 q.1), (6, .own 2 q.2.length 1)]) (fun q => hq 3 [.row ⟨56, 3, .leaf, [.int .i64 0, .int .i64 0, .str []], none⟩, .row ⟨56, 3, .leaf, [.int .i64 ((b.getD (Int.toNat 0) default).toNat : Int), .int .i64 0, .str []], none⟩, .arr 5 1 q.2.length (q.2.flatMap encB)]) (fun q => 1 ≤ q.1 ∧ q.1 ≤ b.length ∧ q.2.length ≤ q.1 ∧ pT (b.drop 1) = (pT (b.drop q.1)).map (fun p => (q.2 ++ p.1, p.2 + (q.1 - 1)))) (fun q => b.length - q.1) (1, []) ⟨Nat.le_refl _, by show 1 ≤ b.length; omega, Nat.zero_le _, by show _ = Option.map (fun p => p) _; simp⟩ Zt rfl (fun q hP ih => ?_)
  obtain ⟨n, s⟩ := q
  obtain ⟨hn1, hn, hs, hP⟩ := hP
  simp only at hn1 hn hs hP ⊢
  clear q
  by_cases c1 : (n : Int) + 1 < (b.length : Int)
  ·have hd2 := drop2 (b := b) (n := n) (by omega)
   rw [hd2] at hP
   have hcn := (b.getD (n : Int).toNat default).toNat_lt
   by_cases cz : ((b.getD (n : Int).toNat default).toNat : Int) = 0
   ·have cz' : (b.getD n default).toNat = 0 := by rw [Int.toNat_natCast] at cz; omega
    by_cases d1 : ((b.getD ((n : Int) + 1).toNat default).toNat : Int) = 1
    ·have d1' : (b.getD (n + 1) default).toNat = 1 := by rw [show ((n : Int) + 1).toNat = n + 1 by omega] at d1; omega
     rw [pT_1 cz' d1'] at hP
     rw [hP]
     simp only [Option.map_some, List.append_nil]
     have k1 := k29 ⟨((b.getD (Int.toNat 0) default).toNat : Int), 0, s⟩ (by show s.length ≤ _; omega)
     have hx : ¬ (b.length : Int) ≤ (n : Int) + 1 := by omega
     by_cases hv : VaP ⟨((b.getD (Int.toNat 0) default).toNat : Int), 0, s⟩
     ·rw [show vaO ⟨((b.getD 0 default).toNat : Int), 0, s⟩ (2 + (n - 1) + 1) = some (⟨((b.getD 0 default).toNat : Int), 0, s⟩, n + 2) from by rw [show 2 + (n - 1) + 1 = n + 2 by omega]; exact vaO_t hv]
      rw [bd_of hv] at k1
      repeat' first | refine Go.seq ?_ | refine Go.region rfl ?_ | refine Ops.nil ?_ | refine Go.condNp rfl Za ?_ | refine Ops.frzMv eF 102 rfl rfl rfl Zw Z1 rfl Zi rfl rfl rfl rfl ?_ | refine Ops.val eF rfl rfl Zw Zs ?_ | refine Ops.val eF rfl rfl Zw (by first | exact Z1 | exact Z2 | exact Z3 | exact Y14 | exact Z4 | exact Y24 | exact Z5 | exact Z6) ?_ | refine Ops.gT rfl rfl Za ?_ | refine Ops.call eF rfl rfl Zw rfl rfl rfl rfl (k1) rfl ?_ | refine Ops.unit eF rfl Zw (Hop.store eF rfl rfl rfl rfl rfl rfl) (ArrKeep.put rfl) ?_ | refine Go.condF rfl ?_ | refine Go.condFt rfl Za ?_ | refine Go.unblk ?_ | refine Go.skip ?_ | refine Go.exit rfl ?_
      exact Zr
     ·rw [show vaO ⟨((b.getD 0 default).toNat : Int), 0, s⟩ (2 + (n - 1) + 1) = _ from vaO_f hv]
      rw [bd_no hv] at k1
      repeat' first | refine Go.seq ?_ | refine Go.region rfl ?_ | refine Ops.nil ?_ | refine Go.condNp rfl Za ?_ | refine Ops.frzMv eF 102 rfl rfl rfl Zw Z1 rfl Zi rfl rfl rfl rfl ?_ | refine Ops.val eF rfl rfl Zw Zs ?_ | refine Ops.val eF rfl rfl Zw (by first | exact Z1 | exact Z2 | exact Z3 | exact Y14 | exact Z4 | exact Y24 | exact Z5 | exact Z6 | exact Y36) ?_ | refine Ops.gT rfl rfl Za ?_ | refine Ops.call eF rfl rfl Zw rfl rfl rfl rfl (k1) rfl ?_ | refine Ops.unit eF rfl Zw (Hop.store eF rfl rfl rfl rfl rfl rfl) (ArrKeep.put rfl) ?_ | refine Go.condT rfl ?_ | refine Go.condFt rfl Za ?_ | refine Go.unblk ?_ | refine Go.skip ?_ | refine Go.exit rfl ?_
      exact Zr
    ·have d1' : ¬ (b.getD (n + 1) default).toNat = 1 := by rw [show ((n : Int) + 1).toNat = n + 1 by omega] at d1; omega
     by_cases d2 : ((b.getD ((n : Int) + 1).toNat default).toNat : Int) = 255
     ·have d2' : (b.getD (n + 1) default).toNat = 255 := by rw [show ((n : Int) + 1).toNat = n + 1 by omega] at d2; omega
      rw [pT_255 cz' d2'] at hP
      have g := ih (n + 2, s ++ [b.getD n default]) ⟨by show 1 ≤ n + 2; omega, by show n + 2 ≤ _; omega, by show (s ++ [b.getD n default]).length ≤ n + 2; rw [List.length_append]; show s.length + 1 ≤ _; omega, by rw [hP, Option.map_map]; congr 1; funext p; show (_, _) = (_, _); rw [List.append_assoc]; congr 1; show p.2 + 2 + (n - 1) = p.2 + (n + 2 - 1); omega⟩ (by show _ < _; omega)
      simp only [List.length_append, List.length_cons, List.length_nil, Nat.zero_add, List.flatMap_append, List.flatMap_cons, List.flatMap_nil, List.append_nil, ← List.append_assoc, show ((n + 2 : Nat) : Int) = (n : Int) + 1 + 1 by omega] at g
      repeat' first | refine Go.seq ?_ | refine Go.region rfl ?_ | refine Ops.nil ?_ | refine Go.condNp rfl Za ?_ | refine Go.condNn rfl Za ?_ | refine Ops.val eF rfl rfl Zw (by first | exact Z1 | exact Z2 | exact Z3 | exact Y14 | exact Y24 | exact Z5 | exact Z6) ?_ | refine Ops.gT rfl rfl Za ?_ | refine Ops.data eF rfl rfl Zw rfl (Hop.bslice eF rfl rfl rfl rfl rfl rfl rfl rfl rfl rfl rfl) rfl rfl ?_ | refine Ops.appendE eF rfl rfl Zw rfl rfl rfl rfl rfl rfl rfl rfl rfl rfl rfl rfl rfl rfl rfl rfl Zi rfl rfl rfl rfl rfl Zz (by omega) ?_ | refine Go.condTt rfl Za ?_ | refine Go.block ?_ | refine Go.unblk ?_ | refine Go.skip ?_
      try simp only [Int.toNat_natCast]
      exact Go.toQ g rfl eF.g Zt rfl rfl Zg Zl rfl rfl
     ·have d2' : ¬ (b.getD (n + 1) default).toNat = 255 := by rw [show ((n : Int) + 1).toNat = n + 1 by omega] at d2; omega
      rw [pT_n cz' d1' d2'] at hP
      rw [show pT (b.drop 1) = none from hP]
      repeat' first | refine Go.seq ?_ | refine Go.region rfl ?_ | refine Ops.nil ?_ | refine Go.condNn rfl Za ?_ | refine Ops.val eF rfl rfl Zw (by first | exact Z1 | exact Z2 | exact Z3 | exact Y14 | exact Y24 | exact Z5 | exact Z6 | exact Y36) ?_ | refine Ops.gT rfl rfl Za ?_ | refine Ops.unit eF rfl Zw (Hop.store eF rfl rfl rfl rfl rfl rfl) (ArrKeep.put rfl) ?_ | refine Go.block ?_ | refine Go.skip ?_
      exact Zr
   ·have cz' : ¬ (b.getD n default).toNat = 0 := by rw [Int.toNat_natCast] at cz; omega
    rw [pT_c cz', show b.getD (n + 1) default :: b.drop (n + 2) = b.drop (n + 1) from (drop_at (by omega)).symm] at hP
    have g := ih (n + 1, s ++ [b.getD n default]) ⟨by show 1 ≤ n + 1; omega, by show n + 1 ≤ _; omega, by show (s ++ [b.getD n default]).length ≤ n + 1; rw [List.length_append]; show s.length + 1 ≤ _; omega, by rw [hP, Option.map_map]; congr 1; funext p; show (_, _) = (_, _); rw [List.append_assoc]; congr 1; show p.2 + 1 + (n - 1) = p.2 + (n + 1 - 1); omega⟩ (by show _ < _; omega)
    simp only [List.length_append, List.length_cons, List.length_nil, Nat.zero_add, List.flatMap_append, List.flatMap_cons, List.flatMap_nil, List.append_nil, ← List.append_assoc, show ((n + 1 : Nat) : Int) = (n : Int) + 1 by omega] at g
    repeat' first | refine Go.seq ?_ | refine Go.region rfl ?_ | refine Ops.nil ?_ | refine Ops.val eF rfl rfl Zw (by first | exact Z1 | exact Z2 | exact Z3 | exact Y14 | exact Y24 | exact Z5 | exact Z6) ?_ | refine Ops.skip rfl rfl Zn ?_ | refine Ops.gT rfl rfl Za ?_ | refine Ops.gF rfl rfl Za ?_ | refine Ops.data eF rfl rfl Zw rfl (Hop.bslice eF rfl rfl rfl rfl rfl rfl rfl rfl rfl rfl rfl) rfl rfl ?_ | refine Ops.appendE eF rfl rfl Zw rfl rfl rfl rfl rfl rfl rfl rfl rfl rfl rfl rfl rfl rfl rfl rfl Zi rfl rfl rfl rfl rfl Zz (by omega) ?_ | refine Go.condT rfl ?_ | refine Go.condF rfl ?_ | refine Go.condFt rfl Za ?_ | refine Go.block ?_ | refine Go.unblk ?_ | refine Go.skip ?_
    try simp only [Int.toNat_natCast]
    exact Go.toQ g rfl eF.g Zt rfl rfl Zg Zl rfl rfl
  ·have hsh : (b.drop n).length ≤ 1 := by rw [List.length_drop]; omega
   rw [pT_short hsh] at hP
   rw [show pT (b.drop 1) = none from hP]
   have hx : (b.length : Int) ≤ (n : Int) + 1 := by omega
   repeat' first | refine Go.seq ?_ | refine Go.region rfl ?_ | refine Ops.nil ?_ | refine Ops.val eF rfl rfl Zw (by first | exact Z1 | exact Z2 | exact Z3 | exact Y14 | exact Z6 | exact Y36) ?_ | refine Ops.skip rfl rfl Zn ?_ | refine Ops.gF rfl rfl Za ?_ | refine Ops.unit eF rfl Zw (Hop.store eF rfl rfl rfl rfl rfl rfl) (ArrKeep.put rfl) ?_ | refine Go.condF rfl ?_ | refine Go.condTt rfl Za ?_ | refine Go.exit rfl ?_
   exact Zr
theorem k88 (b : Str) (hl : b.length ≤ 100000) : KOk cF 88 [bysA b] (oneR (pV b)) := by
 by_cases h0 : b.length < 2
 ·exact k88s b hl h0
 by_cases h2 : ((b.getD (Int.toNat 0) default).toNat : Int) = 2
 ·exact k88_2 b hl h0 h2
 by_cases h1 : ((b.getD (Int.toNat 0) default).toNat : Int) = 1 ∨ ((b.getD (Int.toNat 0) default).toNat : Int) = 5 ∨ ((b.getD (Int.toNat 0) default).toNat : Int) = 6
 ·exact k88_n b hl h0 h2 h1
 by_cases ht : txtK (b.getD (Int.toNat 0) default).toNat
 ·exact k88_t b hl h0 ht
 ·exact k88_o b hl h0 h2 h1 ht
end Go.Px.Fe
end
section
set_option maxHeartbeats 4000000
set_option maxRecDepth 20000
namespace Go.Px.Fe
open Go.Proofs Go.Px.Fs
attribute [local irreducible] Go.Px.KOk
def encBl' (b : Bool) : List AV := [.bool b]
theorem vaO_some {v : Va} {n : Nat} {p : Va × Nat} (h : vaO v n = some p) : VaP v ∧ p = (v, n) := by
 by_cases hv : VaP v
 ·rw [vaO_t hv] at h; exact ⟨hv, (Option.some.inj h).symm⟩
 ·rw [vaO_f hv] at h; cases h
theorem pV_le {b : Str} {p : Va × Nat} (h : pV b = some p) : 1 ≤ p.2 ∧ p.2 ≤ b.length := by
 unfold pV at h
 split at h
 ·cases h
 rename_i h0
 split at h
 ·rw [(vaO_some h).2]; exact ⟨by show 1 ≤ 2; decide, by show 2 ≤ _; omega⟩
 split at h
 ·split at h
  ·cases h
  ·rw [(vaO_some h).2]; exact ⟨by show 1 ≤ 9; decide, by show 9 ≤ _; omega⟩
 split at h
 ·cases hp : pT (b.drop 1) with
  | none => rw [hp] at h; cases h
  | some q =>
   rw [hp] at h
   have := pT_le hp
   rw [List.length_drop] at this
   rw [(vaO_some h).2]
   exact ⟨by show 1 ≤ q.2 + 1; omega, by show q.2 + 1 ≤ _; omega⟩
 ·cases h
noncomputable def pP (k : Bool) (b : Str) : Option (Pt × Str) := match k with
 | true => (pV b).map fun p => (sdP p.1, b.drop p.2)
 | false => if b.length < 8 then none else some (nmP (num8 (b.take 8)), b.drop 8)
noncomputable def pPs : List Bool → Str → Option (List Pt × Str)
 | [], b => some ([], b)
 | k :: ks, b => (pP k b).bind fun q => (pPs ks q.2).map fun x => (q.1 :: x.1, x.2)
noncomputable def readR (x : Option (List Pt × Str)) : AV := match x with
 | none => .tup [.nilsl, .int .i64 20]
 | some p => match p.2 with
  | [] => .tup [ptsA p.1, .int .i64 0]
  | _ :: _ => .tup [.nilsl, .int .i64 20]
theorem flatP' (l : List Pt) (p : Pt) : (l ++ [p]).flatMap encPt = l.flatMap encPt ++ encPt p := by rw [List.flatMap_append]; simp
theorem k63 (b : Str) (ks : List Bool) (hb : b.length ≤ 100000) (hk : ks.length ≤ 100) : KOk cF 63 [bysA b, dsl 1 encBl' ks] (readR (pPs ks b)) := by
 refine KOk.of cF_ok eF.g Try.func63 rfl (Nat.le_of_ble_eq_true rfl) fun w F => ?_
 repeat' first | refine Go.seq ?_ | refine Go.region rfl ?_ | refine Ops.nil ?_ | refine Ops.val eF rfl rfl Zw Z1 ?_ | refine Go.block ?_
 refine Go.change (Chg.tokAt 0 6 108 5 rfl rfl) ?_
 refine Go.toHQ (N := 1) (bs := [.arr 108 5 0 []]) (L' := [(0, bysA b), (1, dsl 1 encBl' ks), (6, .own 0 0 5), (7, .int .i64 (0 : Nat)), (8, .int .i64 (0 : Nat))]) ?_ rfl eF.g Zt rfl rfl ⟨.inr rfl, trivial⟩ Zl rfl rfl
 refine Go.loop (fun s : Nat × Nat × List Pt => [(0, bysA b), (1, dsl 1 encBl' ks), (6, .own 0 s.2.2.length 5), (7, .int .i64 s.2.1), (8, .int .i64 s.1)]) (fun s => hq 1 [.arr 108 5 s.2.2.length (s.2.2.flatMap encPt)]) (fun s => s.1 ≤ ks.length ∧ s.2.1 ≤ b.length ∧ s.2.2.length ≤ s.1 ∧ pPs ks b = (pPs (ks.drop s.1) (b.drop s.2.1)).map (fun x => (s.2.2 ++ x.1, x.2))) (fun s => ks.length - s.1) (0, 0, []) ⟨Nat.zero_le _, Nat.zero_le _, Nat.zero_le _, by show _ = Option.map (fun x => x) _; simp⟩ Zt rfl (fun s hP ih => ?_)
 obtain ⟨i, a, out⟩ := s
 obtain ⟨hi, ha, ho, hP⟩ := hP
 simp only at hi ha ho hP ⊢
 by_cases c0 : (i : Int) < (ks.length : Int)
 ·have hlt : i < ks.length := by omega
  rw [drop_at hlt] at hP
  cases hk' : ks.getD i default with
  | true =>
   rw [hk'] at hP
   have k1 : KOk cF 88 [bysA (b.drop (a : Int).toNat)] (oneR (pV (b.drop a))) := k88 (b.drop a) (by rw [List.length_drop]; omega)
   cases hv : pV (b.drop a) with
   | none =>
    rw [hv] at k1
    rw [show pPs ks b = none by rw [hP, pPs, pP, hv]; rfl]
    simp only [oneR] at k1
    repeat' first | refine Go.seq ?_ | refine Go.region rfl ?_ | refine Ops.nil ?_ | refine Ops.val eF rfl rfl Zw (by first | exact Z1 | exact Z3 | exact Y24 | exact Z5 | exact Z6) ?_ | refine Go.condTt rfl Za ?_ | refine Go.block ?_ | refine Go.skip ?_
    simp only [Int.toNat_natCast, hk']
    repeat' first | refine Go.seq ?_ | refine Go.region rfl ?_ | refine Ops.nil ?_ | refine Ops.val eF rfl rfl Zw (by first | exact Z1 | exact Z3 | exact Y41) ?_ | refine Ops.call eF rfl rfl Zw rfl rfl rfl rfl (k1) rfl ?_ | refine Ops.rowAt eF 1 rfl rfl Zw rfl (Hop.alloc eF rfl rfl rfl) ?_ | refine Ops.unit eF rfl Zw (Hop.store eF rfl rfl rfl rfl rfl rfl) (ArrKeep.put rfl) ?_ | refine Go.condT rfl ?_ | refine Go.condTt rfl Za ?_ | refine Go.retF rfl ?_ rfl
    rfl
   | some q =>
    obtain ⟨v, n⟩ := q
    have hle := pV_le hv
    rw [List.length_drop] at hle
    have hn0 : ¬ ((n : Nat) : Int) = 0 := by have := hle.1; omega
    rw [hv] at k1
    have g := ih (i + 1, a + n, out ++ [sdP v]) ⟨hlt, by show a + n ≤ _; have := hle.2; have : n ≤ b.length - a := hle.2; omega, by show (out ++ [sdP v]).length ≤ i + 1; rw [List.length_append]; show out.length + 1 ≤ _; omega, by
     rw [hP, pPs, pP, hv]
     show Option.map _ (Option.map _ (pPs (ks.drop (i + 1)) ((b.drop a).drop n))) = Option.map _ (pPs (ks.drop (i + 1)) (b.drop (a + n)))
     rw [List.drop_drop, Option.map_map]
     congr 1
     funext x
     show (out ++ sdP v :: x.1, x.2) = (out ++ [sdP v] ++ x.1, x.2)
     rw [List.append_assoc]; rfl⟩ (by show _ < _; omega)
    rw [flatP', List.length_append] at g
    simp only [oneR] at k1
    repeat' first | refine Go.seq ?_ | refine Go.region rfl ?_ | refine Ops.nil ?_ | refine Ops.val eF rfl rfl Zw (by first | exact Z1 | exact Z3 | exact Y24 | exact Z5 | exact Z6) ?_ | refine Go.condTt rfl Za ?_ | refine Go.block ?_ | refine Go.skip ?_
    simp only [Int.toNat_natCast, hk']
    repeat' first | refine Go.seq ?_ | refine Go.region rfl ?_ | refine Ops.nil ?_ | refine Ops.val eF rfl rfl Zw (by first | exact Z1 | exact Z3 | exact Y14 | exact Z5 | exact Y36 | exact Y41) ?_ | refine Ops.call eF rfl rfl Zw rfl rfl rfl rfl (k1) rfl ?_ | refine Ops.data eF rfl rfl Zw rfl (Hop.bslice eF rfl rfl rfl rfl rfl rfl rfl rfl rfl rfl rfl) rfl rfl ?_ | refine Ops.appendE eF rfl rfl Zw rfl rfl rfl rfl rfl rfl rfl rfl rfl rfl rfl rfl rfl rfl rfl rfl Zi rfl rfl rfl rfl rfl Zz (by omega) ?_ | refine Ops.rowAt eF 1 rfl rfl Zw rfl (Hop.alloc eF rfl rfl rfl) ?_ | refine Ops.unit eF rfl Zw (Hop.store eF rfl rfl rfl rfl rfl rfl) (ArrKeep.put rfl) ?_ | refine Go.condT rfl ?_ | refine Go.condFt rfl Za ?_ | refine Go.skip ?_ | refine Go.exit rfl ?_
    exact Go.toQ g rfl eF.g Zt rfl rfl ⟨.inr rfl, trivial⟩ Zl rfl rfl
  | false =>
   rw [hk'] at hP
   by_cases c8 : (b.length : Int) - (a : Int) < 8
   ·rw [show pPs ks b = none by rw [hP, pPs, pP, if_pos (by rw [List.length_drop]; omega)]; rfl]
    repeat' first | refine Go.seq ?_ | refine Go.region rfl ?_ | refine Ops.nil ?_ | refine Ops.val eF rfl rfl Zw (by first | exact Z1 | exact Z3 | exact Y24 | exact Z5 | exact Z6) ?_ | refine Go.condTt rfl Za ?_ | refine Go.block ?_ | refine Go.skip ?_
    simp only [Int.toNat_natCast, hk']
    repeat' first | refine Go.seq ?_ | refine Go.region rfl ?_ | refine Ops.nil ?_ | refine Ops.val eF rfl rfl Zw (by first | exact Z1 | exact Z3 | exact Y15 | exact Z6) ?_ | refine Go.condF rfl ?_ | refine Go.condTt rfl Za ?_ | refine Go.skip ?_ | refine Go.retF rfl ?_ rfl
    rfl
   ·have k1 : KOk cF 89 [bysA (b.drop (a : Int).toNat)] (.int .i64 (num8 ((b.drop a).take 8))) := k89 (b.drop a) (by rw [List.length_drop]; omega) (by rw [List.length_drop]; omega)
    have g := ih (i + 1, a + 8, out ++ [nmP (num8 ((b.drop a).take 8))]) ⟨hlt, by show a + 8 ≤ _; omega, by show (out ++ [nmP _]).length ≤ i + 1; rw [List.length_append]; show out.length + 1 ≤ _; omega, by
     rw [hP, pPs, pP, if_neg (by rw [List.length_drop]; omega)]
     show Option.map _ (Option.map _ (pPs (ks.drop (i + 1)) ((b.drop a).drop 8))) = Option.map _ (pPs (ks.drop (i + 1)) (b.drop (a + 8)))
     rw [List.drop_drop, Option.map_map]
     congr 1
     funext x
     show (out ++ nmP _ :: x.1, x.2) = (out ++ [nmP _] ++ x.1, x.2)
     rw [List.append_assoc]; rfl⟩ (by show _ < _; omega)
    rw [flatP', List.length_append] at g
    generalize num8 ((b.drop a).take 8) = y at *
    repeat' first | refine Go.seq ?_ | refine Go.region rfl ?_ | refine Ops.nil ?_ | refine Ops.val eF rfl rfl Zw (by first | exact Z1 | exact Z3 | exact Y24 | exact Z5 | exact Z6) ?_ | refine Go.condTt rfl Za ?_ | refine Go.block ?_ | refine Go.skip ?_
    simp only [Int.toNat_natCast, hk']
    repeat' first | refine Go.seq ?_ | refine Go.region rfl ?_ | refine Ops.nil ?_ | refine Ops.val eF rfl rfl Zw (by first | exact Z1 | exact Z3 | exact Y14 | exact Y15 | exact Z6 | exact Y36 | exact Y41) ?_ | refine Ops.call eF rfl rfl Zw rfl rfl rfl rfl (k1) rfl ?_ | refine Ops.data eF rfl rfl Zw rfl (Hop.bslice eF rfl rfl rfl rfl rfl rfl rfl rfl rfl rfl rfl) rfl rfl ?_ | refine Ops.appendE eF rfl rfl Zw rfl rfl rfl rfl rfl rfl rfl rfl rfl rfl rfl rfl rfl rfl rfl rfl Zi rfl rfl rfl rfl rfl Zz (by omega) ?_ | refine Go.condF rfl ?_ | refine Go.condFt rfl Za ?_ | refine Go.unblk ?_ | refine Go.skip ?_
    exact Go.toQ g rfl eF.g Zt rfl rfl ⟨.inr rfl, trivial⟩ Zl rfl rfl
 ·have ei : i = ks.length := by omega
  subst ei
  rw [List.drop_length, pPs, Option.map_some, List.append_nil] at hP
  rw [hP]
  by_cases ce : (a : Int) < (b.length : Int)
  ·obtain ⟨c, r, hr⟩ : ∃ c r, b.drop a = c :: r := ⟨_, _, drop_at (show a < b.length by omega)⟩
   rw [hr]
   repeat' first | refine Go.seq ?_ | refine Go.region rfl ?_ | refine Ops.nil ?_ | refine Ops.val eF rfl rfl Zw (by first | exact Z1 | exact Z3 | exact Z6) ?_ | refine Go.condTt rfl Za ?_ | refine Go.condFt rfl Za ?_ | refine Go.exit rfl ?_ | refine Go.retF rfl ?_ rfl
   rfl
  ·rw [List.drop_eq_nil_of_le (show b.length ≤ a by omega)]
   repeat' first | refine Go.seq ?_ | refine Go.region rfl ?_ | refine Ops.nil ?_ | refine Ops.frzMv eF 4 rfl rfl rfl Zw Z1 rfl Zi rfl rfl rfl rfl ?_ | refine Ops.val eF rfl rfl Zw (by first | exact Z1 | exact Z3 | exact Z6) ?_ | refine Go.condFt rfl Za ?_ | refine Go.skip ?_ | refine Go.exit rfl ?_ | refine Go.retF rfl ?_ rfl
   rfl
end Go.Px.Fe
end
