/- Parts of the proof in YthlbnmohaeeccaaVFin: FeCa, FeBm, FeCb, FeCc, FeBf, FeCd, FeCf. -/
import Derived.Test.YthlbnmohaeeccaaVLa
import Derived.Test.YthlbnmohaeeccaaVLk
import Derived.Test.YthlbnmohaeeccaaVLd
import Derived.Test.YthlbnmohaeeccaaVLj
import Derived.Test.YthlbnmohaeeccaaVK4
set_option linter.unusedVariables false
set_option linter.unusedSimpArgs false
section
namespace Go.Px.Fe
open Go.Proofs Go.Px.Fs
theorem valF_add (u : Nat) : ∀ r : Str, valF u r = u * 256 ^ r.length + valN r
 | [] => by simp [valF, valN]
 | c :: r => by
  have h1 := valF_add (u * 256 + c.toNat) r
  have h2 := valF_add (0 * 256 + c.toNat) r
  show valF (u * 256 + c.toNat) r = _ + valF (0 * 256 + c.toNat) r
  rw [h1, h2, List.length_cons, Nat.pow_succ, Nat.add_mul, Nat.add_mul, Nat.zero_mul, Nat.zero_add, Nat.mul_assoc, Nat.mul_comm 256, Nat.add_assoc]
theorem valF_be : ∀ k v w : Nat, valF w (be k v) = w * 256 ^ k + v % 256 ^ k
 | 0, v, w => by show w = _; rw [Nat.pow_zero, Nat.mod_one, Nat.mul_one, Nat.add_zero]
 | k + 1, v, w => by
  show valF (w * 256 + (byt v k).toNat) (be k v) = _
  rw [valF_be k v, byt_n, Nat.pow_succ, Nat.mod_mul, Nat.add_mul, Nat.mul_assoc, Nat.mul_comm 256, Nat.add_assoc, Nat.mul_comm (v / 256 ^ k % 256), Nat.add_comm (256 ^ k * _)]
theorem valN_be {k v : Nat} (h : v < 256 ^ k) : valN (be k v) = v := by
 unfold valN
 rw [valF_be, Nat.zero_mul, Nat.zero_add, Nat.mod_eq_of_lt h]
theorem be_valF (w : Nat) : ∀ l : Str, be l.length (valF w l) = l
 | [] => rfl
 | c :: r => by
  show byt (valF (w * 256 + c.toNat) r) r.length :: be r.length (valF (w * 256 + c.toNat) r) = _
  rw [be_valF _ r]
  congr 1
  refine UInt8.toNat_inj.mp ?_
  have hc := c.toNat_lt
  rw [byt_n, valF_add, Nat.add_comm, Nat.add_mul_div_right _ _ (Nat.pow_pos (by decide)), Nat.div_eq_of_lt (valN_lt r)]
  omega
theorem be_valN {l : Str} {k : Nat} (h : l.length = k) : be k (valN l) = l := by rw [← h]; exact be_valF 0 l
theorem numK_num8 {l : Str} (h : l.length = 8) : numK (num8 l) = valN l := by
 have := valN_lt8 (l := l) (by omega)
 unfold numK num8 sgn
 split <;> omega
theorem be_num8 {l : Str} (h : l.length = 8) : be 8 (numK (num8 l)) = l := by rw [numK_num8 h, be_valN h]
def I64 (n : Int) : Prop := -9223372036854775808 ≤ n ∧ n < 9223372036854775808
theorem num8_be {n : Int} (h : I64 n) : num8 (be 8 (numK n)) = n := by
 unfold num8
 rw [valN_be (by have := numK_lt n; omega), numK_i]
 unfold I64 at h
 unfold sgn
 split <;> omega
theorem num8_i {l : Str} (h : l.length ≤ 8) : I64 (num8 l) := by
 have := valN_lt8 (l := l) h
 unfold num8 sgn I64
 split <;> omega
theorem u0 {c : UInt8} (h : c.toNat = 0) : c = 0 := UInt8.toNat_inj.mp h
theorem pT_w : ∀ {b : Str} {s : Str} {n : Nat}, pT b = some (s, n) → esc s ++ [0, 1] ++ b.drop n = b ∧ n ≤ b.length
 | [], s, n, h => by cases h
 | [_], s, n, h => by cases h
 | c :: d :: r, s, n, h => by
  by_cases hc : c.toNat = 0
  ·by_cases h1 : d.toNat = 1
   ·rw [pT_1 hc h1] at h
    cases h
    have e0 := u0 hc
    have e1 : d = 1 := UInt8.toNat_inj.mp h1
    subst e0; subst e1
    exact ⟨rfl, by simp⟩
   ·by_cases h2 : d.toNat = 255
    ·rw [pT_255 hc h2] at h
     cases q : pT r with
     | none => rw [q] at h; cases h
     | some p =>
      rw [q] at h
      cases h
      have ih := pT_w q
      have e0 := u0 hc
      have e1 : d = 255 := UInt8.toNat_inj.mp h2
      subst e0; subst e1
      refine ⟨?_, by simp only [List.length_cons]; omega⟩
      show 0 :: 255 :: (esc p.1 ++ [0, 1] ++ r.drop p.2) = _
      rw [ih.1]
    ·rw [pT_n hc h1 h2] at h
     cases h
  ·rw [pT_c hc] at h
   cases q : pT (d :: r) with
   | none => rw [q] at h; cases h
   | some p =>
    rw [q] at h
    cases h
    have ih := pT_w q
    refine ⟨?_, by have := ih.2; simp only [List.length_cons] at this ⊢; omega⟩
    show escC c ++ esc p.1 ++ [0, 1] ++ (d :: r).drop p.2 = _
    unfold escC
    rw [if_neg hc]
    show c :: (esc p.1 ++ [0, 1] ++ (d :: r).drop p.2) = _
    rw [ih.1]
theorem rtxt_pT : ∀ b : Str, (∀ s n, pT b = some (s, n) → rtxt b = (s, ⟨b.drop n, false⟩)) ∧ (pT b = none → (rtxt b).2.bad = true)
 | [] => ⟨fun s n h => (by cases h), fun _ => rfl⟩
 | [c] => by
  refine ⟨fun s n h => (by cases h), fun _ => ?_⟩
  unfold rtxt
  split <;> rfl
 | c :: d :: r => by
  by_cases hc : c.toNat = 0
  ·have e : rtxt (c :: d :: r) = if d.toNat = 1 then ([], ⟨r, false⟩) else if d.toNat = 255 then (0 :: (rtxt r).1, (rtxt r).2) else ([], ⟨r, true⟩) := by
    rw [rtxt.eq_def]; simp only []; rw [if_neg (by omega)]
   rw [e]
   by_cases h1 : d.toNat = 1
   ·rw [pT_1 hc h1, if_pos h1]
    exact ⟨fun s n h => (by cases h; rfl), fun h => (by cases h)⟩
   ·rw [if_neg h1]
    by_cases h2 : d.toNat = 255
    ·rw [pT_255 hc h2, if_pos h2]
     have ih := rtxt_pT r
     have e0 := u0 hc
     subst e0
     refine ⟨fun s n h => ?_, fun h => ?_⟩
     ·cases q : pT r with
      | none => rw [q] at h; cases h
      | some p =>
       rw [q] at h
       cases h
       rw [ih.1 p.1 p.2 q]; rfl
     ·cases q : pT r with
      | none => exact ih.2 q
      | some p => rw [q] at h; cases h
    ·rw [pT_n hc h1 h2, if_neg h2]
     exact ⟨fun s n h => (by cases h), fun h => rfl⟩
  ·have e : rtxt (c :: d :: r) = (c :: (rtxt (d :: r)).1, (rtxt (d :: r)).2) := by
    rw [rtxt.eq_def]; simp only []; rw [if_pos hc]
   rw [e, pT_c hc]
   have ih := rtxt_pT (d :: r)
   refine ⟨fun s n h => ?_, fun h => ?_⟩
   ·cases q : pT (d :: r) with
    | none => rw [q] at h; cases h
    | some p =>
     rw [q] at h
     cases h
     rw [ih.1 p.1 p.2 q]; rfl
   ·cases q : pT (d :: r) with
    | none => exact ih.2 q
    | some p => rw [q] at h; cases h
theorem rtake_y {b : Str} {n : Nat} (h : n ≤ b.length) : rtake ⟨b, false⟩ n = (b.take n, ⟨b.drop n, false⟩) := by
 unfold rtake
 rw [if_neg]
 simp only [Bool.false_eq_true, false_or]
 omega
theorem rtake_n {b : Str} {n : Nat} (h : b.length < n) : rtake ⟨b, false⟩ n = (List.replicate n 0, ⟨b, true⟩) := by
 unfold rtake
 rw [if_pos (.inr h)]
theorem rtake_b (b : Str) (n : Nat) : (rtake ⟨b, true⟩ n).2 = ⟨b, true⟩ := by
 unfold rtake
 rw [if_pos (.inl rfl)]
theorem VaP_k7 {v : Va} (h : VaP v) : 1 ≤ v.k ∧ v.k ≤ 7 := by
 unfold VaP at h
 split at h
 ·omega
 split at h
 ·omega
 split at h
 ·omega
 split at h
 ·omega
 split at h
 ·omega
 ·exact h.elim
theorem VaP_s {v : Va} (h : VaP v) : v.s.length ≤ 1000 := by
 unfold VaP at h
 split at h
 ·rw [h]; simp
 split at h
 ·rw [h.1]; simp
 split at h
 ·exact h.2
 split at h
 ·rw [h.1]; simp
 split at h
 ·exact Nat.le_trans h.2.2.1 (by decide)
 ·exact h.elim
theorem rval_pV (b : Str) : (∀ v n, pV b = some (v, n) → rval ⟨b, false⟩ = (v, ⟨b.drop n, false⟩) ∧ VaP v) ∧ (pV b = none → (rvalC ⟨b, false⟩).bad = true) := by
 unfold rvalC
 have hbad : ∀ x : Bool, x = true → ∀ y : Bool, (x || y) = true := by intro x hx y; rw [hx]; rfl
 match b with
 | [] =>
  refine ⟨fun v n h => (by rw [pV_s (by simp)] at h; cases h), fun _ => ?_⟩
  refine hbad (rval ⟨[], false⟩).2.bad ?_ (!bd (VaP (rval ⟨[], false⟩).1))
  show (rval ⟨[], false⟩).2.bad = true
  unfold rval
  rw [rtake_n (by simp)]
  show (rbody 0 ⟨[], true⟩).2.bad = true
  unfold rbody
  rw [if_neg (by decide), if_neg (by unfold txtK; decide), rtake_b]
 | [c] =>
  refine ⟨fun v n h => (by rw [pV_s (by simp)] at h; cases h), fun _ => ?_⟩
  refine hbad (rval ⟨[c], false⟩).2.bad ?_ (!bd (VaP (rval ⟨[c], false⟩).1))
  show (rval ⟨[c], false⟩).2.bad = true
  unfold rval
  rw [rtake_y (by simp)]
  show (rbody c ⟨[], false⟩).2.bad = true
  unfold rbody
  split
  ·rw [rtake_n (by simp)]
  split
  ·rfl
  ·rw [rtake_n (by simp)]
 | c :: d :: r =>
  have e : rval ⟨c :: d :: r, false⟩ = rbody c ⟨d :: r, false⟩ := by
   unfold rval
   rw [rtake_y (by simp)]; rfl
  have h2 : ¬ (c :: d :: r).length < 2 := by simp
  rw [e]
  have hv : ∀ (v : Va) (n m : Nat), rbody c ⟨d :: r, false⟩ = (v, ⟨(c :: d :: r).drop n, false⟩) → pV (c :: d :: r) = vaO v n → (∀ v n, pV (c :: d :: r) = some (v, n) → rbody c ⟨d :: r, false⟩ = (v, ⟨(c :: d :: r).drop n, false⟩) ∧ VaP v) ∧ (pV (c :: d :: r) = none → ((rbody c ⟨d :: r, false⟩).2.bad || !bd (VaP (rbody c ⟨d :: r, false⟩).1)) = true) := by
   intro v n m e1 e2
   rw [e1, e2]
   refine ⟨fun v' n' h => ?_, fun h => ?_⟩
   ·have := vaO_some h
    cases this.2
    exact ⟨rfl, this.1⟩
   ·by_cases hv : VaP v
    ·rw [vaO_t hv] at h; cases h
    ·rw [bd_no hv]; rfl
  have hn : (rbody c ⟨d :: r, false⟩).2.bad = true ∨ ¬ VaP (rbody c ⟨d :: r, false⟩).1 → pV (c :: d :: r) = none → (∀ v n, pV (c :: d :: r) = some (v, n) → rbody c ⟨d :: r, false⟩ = (v, ⟨(c :: d :: r).drop n, false⟩) ∧ VaP v) ∧ (pV (c :: d :: r) = none → ((rbody c ⟨d :: r, false⟩).2.bad || !bd (VaP (rbody c ⟨d :: r, false⟩).1)) = true) := by
   intro e1 e2
   rw [e2]
   refine ⟨fun v n h => (by cases h), fun _ => ?_⟩
   rcases e1 with e1 | e1
   ·rw [e1]; rfl
   ·rw [bd_no e1]; simp
  by_cases k2 : (c.toNat : Int) = 2
  ·refine hv _ 2 0 ?_ (pV_2 h2 k2)
   unfold rbody
   rw [if_pos k2, rtake_y (by simp), k2]; rfl
  by_cases kt : txtK c.toNat
  ·have e3 := pV_t h2 kt
   have ht := rtxt_pT (d :: r)
   have e4 : rbody c ⟨d :: r, false⟩ = (⟨c.toNat, 0, (rtxt (d :: r)).1⟩, (rtxt (d :: r)).2) := by
    unfold rbody
    rw [if_neg k2, if_pos kt]; rfl
   cases q : pT (d :: r) with
   | none =>
    refine hn (.inl ?_) ?_
    ·rw [e4]; exact ht.2 q
    ·rw [e3, show (c :: d :: r).drop 1 = d :: r from rfl, q]
   | some p =>
    refine hv ⟨c.toNat, 0, p.1⟩ (p.2 + 1) 0 ?_ ?_
    ·rw [e4, ht.1 p.1 p.2 q]; rfl
    ·rw [e3, show (c :: d :: r).drop 1 = d :: r from rfl, q]; rfl
  have e5 : rbody c ⟨d :: r, false⟩ = (⟨c.toNat, num8 (rtake ⟨d :: r, false⟩ 8).1, []⟩, (rtake ⟨d :: r, false⟩ 8).2) := by
   unfold rbody
   rw [if_neg k2, if_neg kt]
  by_cases k1 : (c.toNat : Int) = 1 ∨ (c.toNat : Int) = 5 ∨ (c.toNat : Int) = 6
  ·by_cases h9 : (c :: d :: r).length < 9
   ·refine hn (.inl ?_) (pV_ns k2 k1 h9)
    rw [e5, rtake_n (by simp only [List.length_cons] at h9 ⊢; omega)]
   ·refine hv _ 9 0 ?_ (pV_n k2 k1 h9)
    rw [e5, rtake_y (by simp only [List.length_cons] at h9 ⊢; omega)]; rfl
  ·refine hn (.inr ?_) (pV_o k2 k1 kt)
   rw [e5]
   intro h
   have := VaP_k7 h
   unfold txtK at kt
   simp only at this
   omega
theorem u8i_c (c : UInt8) : u8i (c.toNat : Int) = c := by
 have := c.toNat_lt
 refine UInt8.toNat_inj.mp ?_
 unfold u8i
 rw [UInt8.toNat_ofNat']
 omega
theorem pV_w {b : Str} {v : Va} {n : Nat} (h : pV b = some (v, n)) : (u8i v.k :: body v) ++ b.drop n = b ∧ VaP v := by
 have hP := ((rval_pV b).1 v n h).2
 refine ⟨?_, hP⟩
 match b, h with
 | [], h => rw [pV_s (by simp)] at h; cases h
 | [c], h => rw [pV_s (by simp)] at h; cases h
 | c :: d :: r, h =>
  have h2 : ¬ (c :: d :: r).length < 2 := by simp
  by_cases k2 : (c.toNat : Int) = 2
  ·rw [pV_2 h2 k2] at h
   cases (vaO_some h).2
   have e2 : c.toNat = 2 := by omega
   have ec : c = 2 := UInt8.toNat_inj.mp (by rw [e2]; rfl)
   subst ec
   show u8i 2 :: body ⟨2, (d.toNat : Int), []⟩ ++ r = _
   unfold body
   rw [if_pos rfl]
   show u8i 2 :: u8i (d.toNat : Int) :: r = _
   rw [u8i_c]; rfl
  by_cases kt : txtK c.toNat
  ·rw [pV_t h2 kt, show (c :: d :: r).drop 1 = d :: r from rfl] at h
   cases q : pT (d :: r) with
   | none => rw [q] at h; cases h
   | some p =>
    rw [q] at h
    cases (vaO_some h).2
    show u8i (c.toNat : Int) :: (body ⟨c.toNat, 0, p.1⟩ ++ (d :: r).drop p.2) = _
    unfold body
    rw [if_neg k2, if_pos kt, (pT_w q).1, u8i_c]
  by_cases k1 : (c.toNat : Int) = 1 ∨ (c.toNat : Int) = 5 ∨ (c.toNat : Int) = 6
  ·by_cases h9 : (c :: d :: r).length < 9
   ·rw [pV_ns (b := c :: d :: r) k2 k1 h9] at h; cases h
   ·rw [pV_n (b := c :: d :: r) k2 k1 h9] at h
    cases (vaO_some h).2
    show u8i (c.toNat : Int) :: (body ⟨c.toNat, num8 ((d :: r).take 8), []⟩ ++ (d :: r).drop 8) = _
    unfold body
    rw [if_neg k2, if_neg kt]
    simp only []
    rw [be_num8 (by rw [List.length_take]; simp only [List.length_cons] at h9 ⊢; omega), List.take_append_drop, u8i_c]
  ·rw [pV_o (b := c :: d :: r) k2 k1 kt] at h; cases h
end Go.Px.Fe
end
section
set_option maxHeartbeats 4000000
set_option maxRecDepth 200000
namespace Go.Px.Fe
open Go.Proofs Go.Px.Fs
attribute [local irreducible] Go.Px.KOk
noncomputable def datK (l : List Pt) (b : Str) : Option Da := bif bd (DaP (dOf l)) then bif bd (keyD (dOf l) = b) then some (dOf l) else none else none
noncomputable def r34_0 : List Oper := ((drawn (Try.f34.body.getD .skip))[0]?).getD []
theorem dr34_0 : chkOrd cF r34_0 [0, 1, 2, 3, 4, 5, 6, 7, 8, 9, 10, 11, 12, 13, 14, 15, 16, 17, 18, 19] = true := by kernel_rfl
theorem k34y (b : Str) (l : List Pt) (hb : b.length ≤ 100000) (hl7 : l.length = 7) (hv : (l.getD 2 default).v.s.length ≤ 2000) (hn : readR (pPs kindsR b) = .tup [ptsA l, .int .i64 0]) : KOk cF 34 [.int .i64 1, bysA b] (datR (datK l b)) := by
 have k1 := k62
 have k2 := k63 b kindsR hb (by decide)
 rw [hn, show kindsR = [bd (((([101, 97, 118] : Str).getD (Int.toNat 0) default).toNat : Int) = 118), bd (((([101, 97, 118] : Str).getD (Int.toNat (0 + 1)) default).toNat : Int) = 118), bd (((([101, 97, 118] : Str).getD (Int.toNat (0 + 1 + 1)) default).toNat : Int) = 118), false, false, false, false] by rw [bd_no (by decide), bd_no (by decide), bd_of (by decide)]; rfl] at k2
 have e1 : ¬ (((([101, 97, 118] : Str).getD (Int.toNat 0) default).toNat : Int) = 118) := by decide
 refine KOk.of cF_ok eF.g Try.func34 rfl (Nat.le_of_ble_eq_true rfl) fun w F => ?_
 repeat' first | refine Go.seq ?_ | refine Go.region rfl ?_ | refine Ops.nil ?_ | refine Ops.makeOwn (n := 7) (z := 1) (enc := encBl') eF 1 false rfl rfl Zw rfl rfl rfl rfl rfl rfl rfl rfl (fun _ => rfl) rfl rfl rfl rfl (by decide) (by decide) Zi rfl rfl rfl rfl ?_ | refine Ops.val eF rfl rfl Zw (by first | exact Z1 | exact Z2 | exact Z3) ?_ | refine Ops.gF rfl rfl Za ?_ | refine Ops.call eF rfl rfl Zw rfl rfl rfl rfl (k1) rfl ?_ | refine Ops.rowAt eF 0 rfl rfl Zw rfl (Hop.alloc eF rfl rfl rfl) ?_ | refine Go.condFt rfl Za ?_ | refine Go.block ?_ | refine Go.skip ?_
 repeat' first | refine Go.seq ?_ | refine Go.region rfl ?_ | refine Ops.nil ?_ | refine Ops.frzMv eF 38 rfl rfl rfl Zw Z1 rfl Zi rfl rfl rfl rfl ?_ | refine Go.loop1 ?_ | refine Go.round ?_ | refine Ops.val eF rfl rfl Zw (Hop.sidx eF rfl rfl rfl rfl rfl i3.1) ?_ | refine Ops.val eF rfl rfl Zw (Hop.sidx eF rfl rfl rfl rfl rfl i3.2.1) ?_ | refine Ops.val eF rfl rfl Zw (Hop.sidx eF rfl rfl rfl rfl rfl i3.2.2) ?_ | refine Ops.unit eF rfl Zw (Hop.stFG (z := 1) (enc := encBl') eF (bd _) rfl rfl rfl rfl rfl rfl rfl rfl (fun _ => rfl) rfl rfl (by decide)) (ArrKeep.arr rfl) ?_ | refine Ops.val eF rfl rfl Zw (by first | exact Z1 | exact Z3 | exact Y14 | exact Y25) ?_ | refine Go.condTt rfl Za ?_ | refine Go.condFt rfl Za ?_ | refine Go.block ?_ | refine Go.unblk ?_ | refine Go.skip ?_ | refine Go.exit rfl ?_
 repeat' first | refine Go.seq ?_ | refine Go.region rfl ?_ | refine Ops.nil ?_ | refine Go.condNp rfl Za ?_ | refine Ops.val eF rfl rfl Zw (by first | exact Z1 | exact Z3) ?_ | refine Ops.call eF rfl rfl Zw rfl rfl rfl rfl (k2) rfl ?_ | refine Go.skip ?_
 refine Go.draw eF hm [] [0, 1, 2, 3, 4, 5, 6, 7, 8, 9, 10, 11, 12, 13, 14, 15, 16, 17, 18, 19] dr34_0 ?_
 repeat' first | refine Dr.nil ?_ | refine Dr.pure rfl rfl rfl rfl Zw (by first | exact Z1 | exact Z3 | exact Z4 | exact Y24 | exact Z5 | exact Y36) ?_ | refine Dr.light rfl rfl rfl rfl Zw Z5 ?_ | refine Dr.rowAt 2 rfl rfl rfl rfl Zw rfl (Hop.alloc eF rfl rfl rfl) ?_ | refine Dr.store rfl rfl rfl Zw (Hop.store eF rfl rfl rfl rfl rfl rfl) (ArrKeep.put rfl) rfl ?_
 refine Go.toHQ (N := 3) (bs := [.row ⟨58, 9, .leaf, encDa d0, none⟩, .none, .row ⟨58, 9, .leaf, encDa ⟨0, 0, default, (l.getD 3 default).n, (bd ((l.getD 4 default).n = 0)), (l.getD 5 default).n, (l.getD 6 default).n⟩, none⟩]) (L' := [(0, .int .i64 1), (1, bysA b), (4, .ptr 0 0), (6, sA [101, 97, 118]), (9, ptsA l), (11, .ptr 2 0)]) ?_ rfl eF.g Zt rfl rfl Zg Zl rfl rfl
 have l0 : (0 : Int) ≤ 0 ∧ (0 : Int) < (l.length : Int) := by omega
 have l1 : (0 : Int) ≤ 0 + 1 ∧ (0 : Int) + 1 < (l.length : Int) := by omega
 have l2 : (0 : Int) ≤ 0 + 1 + 1 ∧ (0 : Int) + 1 + 1 < (l.length : Int) := by omega
 by_cases hD : DaP (dOf l)
 ·have k3 := kk29 (dOf l) hD hv
  unfold datK
  rw [bd_of hD]
  simp only [cond_true]
  repeat' first | refine Go.seq ?_ | refine Go.region rfl ?_ | refine Ops.nil ?_ | refine Ops.gNp rfl rfl Za ?_ | refine Go.loop1 ?_ | refine Go.round ?_ | refine Ops.val eF rfl rfl Zw (Hop.sidx eF rfl rfl rfl rfl rfl i3.1) ?_ | refine Ops.val eF rfl rfl Zw (Hop.sidx eF rfl rfl rfl rfl rfl i3.2.1) ?_ | refine Ops.val eF rfl rfl Zw (Hop.sidx eF rfl rfl rfl rfl rfl i3.2.2) ?_ | refine Ops.val eF rfl rfl Zw Zs ?_ | refine Ops.val eF rfl rfl Zw (by first | exact Z1 | exact Z2 | exact Z3 | exact Y13 | exact Y14 | exact Z4 | exact Y24 | exact Z5 | exact Y36) ?_ | refine Ops.call eF rfl rfl Zw rfl rfl rfl rfl (k3) rfl ?_ | refine Ops.unit eF rfl Zw (Hop.store eF rfl rfl rfl rfl rfl rfl) (ArrKeep.put rfl) ?_ | refine Go.condTt rfl Za ?_ | refine Go.condFt rfl Za ?_ | refine Go.condNt rfl (fun _ => ?_) (fun _ => ?_) | refine Go.block ?_ | refine Go.unblk ?_ | refine Go.skip ?_ | refine Go.exit rfl ?_
  ·rename_i q
   rw [bd_no q]
   simp only [cond_false]
   refine Go.toHQ (N := 3) (bs := [.row ⟨58, 9, .leaf, encDa d0, none⟩, .none, .none]) (L' := [(4, .ptr 0 0), (5, .int .i64 40)]) ?_ rfl eF.g Zt rfl rfl Zg Zl rfl rfl
   repeat' first | refine Go.seq ?_ | refine Go.region rfl ?_ | refine Ops.nil ?_ | refine Ops.val eF rfl rfl Zw (by first | exact Z1 | exact Z2 | exact Z3 | exact Y12 | exact Y13 | exact Y14 | exact Y20 | exact Hop.conv eF rfl rfl rfl rfl rfl (wr_u64 (by omega)) | exact Z4 | exact Y24 | exact Y25 | exact Y26 | exact Z5 | exact Y31 | exact Y36) ?_ | refine Ops.skip rfl rfl Zn ?_ | refine Ops.skipU rfl Zn ?_ | refine Ops.gT rfl rfl Za ?_ | refine Ops.gF rfl rfl Za ?_ | refine Ops.gP rfl rfl (fun _ => ?_) (fun _ => ?_) | refine Ops.gN rfl rfl (fun _ => ?_) (fun _ => ?_) | refine Ops.bytes eF rfl rfl Zw rfl rfl rfl rfl rfl rfl rfl rfl ?_ | refine Ops.bytes eF rfl rfl Zw rfl rfl rfl rfl rfl rfl rfl rfl ?_ | refine Ops.rowAt eF 0 rfl rfl Zw rfl (Hop.alloc eF rfl rfl rfl) ?_ | refine Ops.rowAt eF 1 rfl rfl Zw rfl (Hop.alloc eF rfl rfl rfl) ?_ | refine Ops.rowAt eF 2 rfl rfl Zw rfl (Hop.alloc eF rfl rfl rfl) ?_ | refine Ops.rowAt eF 3 rfl rfl Zw rfl (Hop.alloc eF rfl rfl rfl) ?_ | refine Ops.rowAt eF 4 rfl rfl Zw rfl (Hop.alloc eF rfl rfl rfl) ?_ | refine Ops.rowAt eF 5 rfl rfl Zw rfl (Hop.alloc eF rfl rfl rfl) ?_ | refine Ops.rowAt eF 6 rfl rfl Zw rfl (Hop.alloc eF rfl rfl rfl) ?_ | refine Ops.rowAt eF 7 rfl rfl Zw rfl (Hop.alloc eF rfl rfl rfl) ?_ | refine Ops.rowAt eF 8 rfl rfl Zw rfl (Hop.alloc eF rfl rfl rfl) ?_ | refine Ops.unit eF rfl Zw (Hop.store eF rfl rfl rfl rfl rfl rfl) (ArrKeep.put rfl) ?_ | refine Go.condT rfl ?_ | refine Go.condF rfl ?_ | refine Go.condTt rfl Za ?_ | refine Go.condFt rfl Za ?_ | refine Go.condPt rfl (fun _ => ?_) (fun _ => ?_) | refine Go.condNt rfl (fun _ => ?_) (fun _ => ?_) | refine Go.block ?_ | refine Go.unblk ?_ | refine Go.skip ?_ | refine Go.exit rfl ?_ | refine Go.retF rfl ?_ rfl | refine Go.endF rfl ?_ rfl | refine Go.retFm rfl rfl ?_ rfl | refine Go.endFm rfl rfl ?_ rfl | refine Go.retI rfl ?_ | refine Go.retM rfl rfl ?_ ?_ rfl | refine Go.endM rfl rfl ?_ ?_ rfl | refine Go.retY rfl rfl rfl ?_ | refine Go.endY rfl rfl rfl ?_ | refine (Ops.val eF rfl rfl Zw (by exact Hop.ldFG eF rfl rfl rfl rfl rfl rfl rfl (fun _ => rfl) (by omega)) ?_) | refine Go.endI rfl ?_
   exact Zr
  ·rename_i q
   rw [bd_of q]
   simp only [cond_true]
   refine Go.toHQ (N := 3) (bs := [.row ⟨58, 9, .leaf, encDa (dOf l), none⟩, .none, .none]) (L' := [(4, .ptr 0 0), (5, .int .i64 0)]) ?_ rfl eF.g Zt rfl rfl Zg Zl rfl rfl
   repeat' first | refine Go.seq ?_ | refine Go.region rfl ?_ | refine Ops.nil ?_ | refine Ops.val eF rfl rfl Zw (by first | exact Z1 | exact Z2 | exact Z3 | exact Y12 | exact Y13 | exact Y14 | exact Y20 | exact Hop.conv eF rfl rfl rfl rfl rfl (wr_u64 (by omega)) | exact Z4 | exact Y24 | exact Y25 | exact Y26 | exact Z5 | exact Y31 | exact Y36) ?_ | refine Ops.skip rfl rfl Zn ?_ | refine Ops.skipU rfl Zn ?_ | refine Ops.gT rfl rfl Za ?_ | refine Ops.gF rfl rfl Za ?_ | refine Ops.gP rfl rfl (fun _ => ?_) (fun _ => ?_) | refine Ops.gN rfl rfl (fun _ => ?_) (fun _ => ?_) | refine Ops.bytes eF rfl rfl Zw rfl rfl rfl rfl rfl rfl rfl rfl ?_ | refine Ops.bytes eF rfl rfl Zw rfl rfl rfl rfl rfl rfl rfl rfl ?_ | refine Ops.rowAt eF 0 rfl rfl Zw rfl (Hop.alloc eF rfl rfl rfl) ?_ | refine Ops.rowAt eF 1 rfl rfl Zw rfl (Hop.alloc eF rfl rfl rfl) ?_ | refine Ops.rowAt eF 2 rfl rfl Zw rfl (Hop.alloc eF rfl rfl rfl) ?_ | refine Ops.rowAt eF 3 rfl rfl Zw rfl (Hop.alloc eF rfl rfl rfl) ?_ | refine Ops.rowAt eF 4 rfl rfl Zw rfl (Hop.alloc eF rfl rfl rfl) ?_ | refine Ops.rowAt eF 5 rfl rfl Zw rfl (Hop.alloc eF rfl rfl rfl) ?_ | refine Ops.rowAt eF 6 rfl rfl Zw rfl (Hop.alloc eF rfl rfl rfl) ?_ | refine Ops.rowAt eF 7 rfl rfl Zw rfl (Hop.alloc eF rfl rfl rfl) ?_ | refine Ops.rowAt eF 8 rfl rfl Zw rfl (Hop.alloc eF rfl rfl rfl) ?_ | refine Ops.unit eF rfl Zw (Hop.store eF rfl rfl rfl rfl rfl rfl) (ArrKeep.put rfl) ?_ | refine Go.condT rfl ?_ | refine Go.condF rfl ?_ | refine Go.condTt rfl Za ?_ | refine Go.condFt rfl Za ?_ | refine Go.condPt rfl (fun _ => ?_) (fun _ => ?_) | refine Go.condNt rfl (fun _ => ?_) (fun _ => ?_) | refine Go.block ?_ | refine Go.unblk ?_ | refine Go.skip ?_ | refine Go.exit rfl ?_ | refine Go.retF rfl ?_ rfl | refine Go.endF rfl ?_ rfl | refine Go.retFm rfl rfl ?_ rfl | refine Go.endFm rfl rfl ?_ rfl | refine Go.retI rfl ?_ | refine Go.retM rfl rfl ?_ ?_ rfl | refine Go.endM rfl rfl ?_ ?_ rfl | refine Go.retY rfl rfl rfl ?_ | refine Go.endY rfl rfl rfl ?_ | refine (Ops.val eF rfl rfl Zw (by exact Hop.ldFG eF rfl rfl rfl rfl rfl rfl rfl (fun _ => rfl) (by omega)) ?_) | refine Go.endI rfl ?_
   exact Zr
 ·have k3 := kk29n (dOf l) hD (Nat.le_trans hv (by decide))
  unfold datK
  rw [bd_no hD]
  simp only [cond_false]
  repeat' first | refine Go.seq ?_ | refine Go.region rfl ?_ | refine Ops.nil ?_ | refine Ops.gNn rfl rfl Za ?_ | refine Go.loop1 ?_ | refine Go.round ?_ | refine Ops.val eF rfl rfl Zw (Hop.sidx eF rfl rfl rfl rfl rfl i3.1) ?_ | refine Ops.val eF rfl rfl Zw (Hop.sidx eF rfl rfl rfl rfl rfl i3.2.1) ?_ | refine Ops.val eF rfl rfl Zw (Hop.sidx eF rfl rfl rfl rfl rfl i3.2.2) ?_ | refine Ops.val eF rfl rfl Zw (by first | exact Z1 | exact Z2 | exact Z3 | exact Y14 | exact Z4 | exact Y24 | exact Z5 | exact Y36) ?_ | refine Ops.skip rfl rfl Zn ?_ | refine Ops.call eF rfl rfl Zw rfl rfl rfl rfl (k3) rfl ?_ | refine Ops.unit eF rfl Zw (Hop.store eF rfl rfl rfl rfl rfl rfl) (ArrKeep.put rfl) ?_ | refine Go.condT rfl ?_ | refine Go.condTt rfl Za ?_ | refine Go.condFt rfl Za ?_ | refine Go.block ?_ | refine Go.unblk ?_ | refine Go.skip ?_ | refine Go.exit rfl ?_
  refine Go.toHQ (N := 3) (bs := [.row ⟨58, 9, .leaf, encDa d0, none⟩, .none, .none]) (L' := [(4, .ptr 0 0), (5, .int .i64 40)]) ?_ rfl eF.g Zt rfl rfl Zg Zl rfl rfl
  repeat' first | refine Go.seq ?_ | refine Go.region rfl ?_ | refine Ops.nil ?_ | refine Ops.val eF rfl rfl Zw (by first | exact Z1 | exact Z2 | exact Z3 | exact Y12 | exact Y13 | exact Y14 | exact Y20 | exact Hop.conv eF rfl rfl rfl rfl rfl (wr_u64 (by omega)) | exact Z4 | exact Y24 | exact Y25 | exact Y26 | exact Z5 | exact Y31 | exact Y36) ?_ | refine Ops.skip rfl rfl Zn ?_ | refine Ops.skipU rfl Zn ?_ | refine Ops.gT rfl rfl Za ?_ | refine Ops.gF rfl rfl Za ?_ | refine Ops.gP rfl rfl (fun _ => ?_) (fun _ => ?_) | refine Ops.gN rfl rfl (fun _ => ?_) (fun _ => ?_) | refine Ops.bytes eF rfl rfl Zw rfl rfl rfl rfl rfl rfl rfl rfl ?_ | refine Ops.bytes eF rfl rfl Zw rfl rfl rfl rfl rfl rfl rfl rfl ?_ | refine Ops.rowAt eF 0 rfl rfl Zw rfl (Hop.alloc eF rfl rfl rfl) ?_ | refine Ops.rowAt eF 1 rfl rfl Zw rfl (Hop.alloc eF rfl rfl rfl) ?_ | refine Ops.rowAt eF 2 rfl rfl Zw rfl (Hop.alloc eF rfl rfl rfl) ?_ | refine Ops.rowAt eF 3 rfl rfl Zw rfl (Hop.alloc eF rfl rfl rfl) ?_ | refine Ops.rowAt eF 4 rfl rfl Zw rfl (Hop.alloc eF rfl rfl rfl) ?_ | refine Ops.rowAt eF 5 rfl rfl Zw rfl (Hop.alloc eF rfl rfl rfl) ?_ | refine Ops.rowAt eF 6 rfl rfl Zw rfl (Hop.alloc eF rfl rfl rfl) ?_ | refine Ops.rowAt eF 7 rfl rfl Zw rfl (Hop.alloc eF rfl rfl rfl) ?_ | refine Ops.rowAt eF 8 rfl rfl Zw rfl (Hop.alloc eF rfl rfl rfl) ?_ | refine Ops.unit eF rfl Zw (Hop.store eF rfl rfl rfl rfl rfl rfl) (ArrKeep.put rfl) ?_ | refine Go.condT rfl ?_ | refine Go.condF rfl ?_ | refine Go.condTt rfl Za ?_ | refine Go.condFt rfl Za ?_ | refine Go.condPt rfl (fun _ => ?_) (fun _ => ?_) | refine Go.condNt rfl (fun _ => ?_) (fun _ => ?_) | refine Go.block ?_ | refine Go.unblk ?_ | refine Go.skip ?_ | refine Go.exit rfl ?_ | refine Go.retF rfl ?_ rfl | refine Go.endF rfl ?_ rfl | refine Go.retFm rfl rfl ?_ rfl | refine Go.endFm rfl rfl ?_ rfl | refine Go.retI rfl ?_ | refine Go.retM rfl rfl ?_ ?_ rfl | refine Go.endM rfl rfl ?_ ?_ rfl | refine Go.retY rfl rfl rfl ?_ | refine Go.endY rfl rfl rfl ?_ | refine (Ops.val eF rfl rfl Zw (by exact Hop.ldFG eF rfl rfl rfl rfl rfl rfl rfl (fun _ => rfl) (by omega)) ?_) | refine Go.endI rfl ?_
  exact Zr
end Go.Px.Fe
end
section
namespace Go.Px.Fe
open Go.Proofs Go.Px.Fs
theorem rpart_pP (k : Bool) (b : Str) : (∀ p r, pP k b = some (p, r) → rpart k ⟨b, false⟩ = (p, ⟨r, false⟩)) ∧ (pP k b = none → (rpart k ⟨b, false⟩).2.bad = true) := by
 cases k with
 | true =>
  have hv := rval_pV b
  cases q : pV b with
  | none =>
   refine ⟨fun p r h => ?_, fun _ => hv.2 q⟩
   rw [pP, q] at h; cases h
  | some x =>
   refine ⟨fun p r h => ?_, fun h => ?_⟩
   ·rw [pP, q] at h
    cases h
    have h1 := hv.1 x.1 x.2 q
    show (sdP (rval ⟨b, false⟩).1, (⟨(rval ⟨b, false⟩).2.b, (rval ⟨b, false⟩).2.bad || !bd (VaP (rval ⟨b, false⟩).1)⟩ : Rd)) = _
    rw [h1.1, bd_of h1.2]; rfl
   ·rw [pP, q] at h; cases h
 | false =>
  show (∀ p r, (if b.length < 8 then none else some (nmP (num8 (b.take 8)), b.drop 8)) = some (p, r) → (nmP (num8 (rtake ⟨b, false⟩ 8).1), (rtake ⟨b, false⟩ 8).2) = (p, (⟨r, false⟩ : Rd))) ∧ ((if b.length < 8 then none else some (nmP (num8 (b.take 8)), b.drop 8)) = none → (rtake ⟨b, false⟩ 8).2.bad = true)
  by_cases h8 : b.length < 8
  ·rw [if_pos h8, rtake_n h8]
   exact ⟨fun p r h => (by cases h), fun _ => rfl⟩
  ·rw [if_neg h8, rtake_y (by omega)]
   exact ⟨fun p r h => (by cases h; rfl), fun h => (by cases h)⟩
theorem rparts_pPs : ∀ (ks : List Bool) (b : Str), (∀ l r, pPs ks b = some (l, r) → rparts ks ⟨b, false⟩ = (l, ⟨r, false⟩)) ∧ (pPs ks b = none → (rparts ks ⟨b, false⟩).2.bad = true)
 | [], b => ⟨fun l r h => (by cases h; rfl), fun h => (by cases h)⟩
 | k :: ks, b => by
  have h1 := rpart_pP k b
  unfold pPs
  cases q : pP k b with
  | none =>
   have e := h1.2 q
   refine ⟨fun l r h => (by cases h), fun _ => ?_⟩
   unfold rparts
   rw [e]; exact e
  | some x =>
   have e := h1.1 x.1 x.2 q
   have ih := rparts_pPs ks x.2
   show (∀ l r, (pPs ks x.2).map (fun y => (x.1 :: y.1, y.2)) = some (l, r) → _) ∧ ((pPs ks x.2).map (fun y => (x.1 :: y.1, y.2)) = none → _)
   unfold rparts
   rw [e]
   simp only []
   cases q2 : pPs ks x.2 with
   | none =>
    refine ⟨fun l r h => (by cases h), fun _ => ih.2 q2⟩
   | some y =>
    refine ⟨fun l r h => ?_, fun h => (by cases h)⟩
    cases h
    rw [ih.1 y.1 y.2 q2]
theorem pP_w {k : Bool} {b : Str} {p : Pt} {r : Str} (h : pP k b = some (p, r)) : keyP p ++ r = b ∧ p.val = k ∧ (k = true → VaP p.v) ∧ (k = false → p.v = default ∧ I64 p.n) ∧ r.length ≤ b.length := by
 cases k with
 | true =>
  cases q : pV b with
  | none => rw [pP, q] at h; cases h
  | some x =>
   rw [pP, q] at h
   cases h
   have h1 := pV_w (v := x.1) (n := x.2) q
   exact ⟨h1.1, rfl, fun _ => h1.2, fun h => (by cases h), by rw [List.length_drop]; omega⟩
 | false =>
  have h' : (if b.length < 8 then none else some (nmP (num8 (b.take 8)), b.drop 8)) = some (p, r) := h
  by_cases h8 : b.length < 8
  ·rw [if_pos h8] at h'; cases h'
  ·rw [if_neg h8] at h'
   have hn8 := be_num8 (l := b.take 8) (by rw [List.length_take]; omega)
   cases h'
   have hi : I64 (num8 (b.take 8)) := num8_i (by rw [List.length_take]; omega)
   generalize num8 (b.take 8) = z at hi hn8 ⊢
   refine ⟨?_, rfl, fun h => (by cases h), fun _ => ⟨rfl, hi⟩, by rw [List.length_drop]; omega⟩
   show be 8 (numK z) ++ b.drop 8 = b
   rw [hn8, List.take_append_drop]
theorem pPs_w : ∀ {ks : List Bool} {b : Str} {l : List Pt} {r : Str}, pPs ks b = some (l, r) → keyB l ++ r = b ∧ l.length = ks.length ∧ r.length ≤ b.length ∧ ∀ i, i < ks.length → (l.getD i default).val = ks.getD i default ∧ (ks.getD i default = true → VaP (l.getD i default).v) ∧ (ks.getD i default = false → (l.getD i default).v = default ∧ I64 (l.getD i default).n)
 | [], b, l, r, h => by cases h; exact ⟨rfl, rfl, Nat.le_refl _, fun i hi => absurd hi (Nat.not_lt_zero _)⟩
 | k :: ks, b, l, r, h => by
  unfold pPs at h
  cases q : pP k b with
  | none => rw [q] at h; cases h
  | some x =>
   rw [q] at h
   have h' : (pPs ks x.2).map (fun y => (x.1 :: y.1, y.2)) = some (l, r) := h
   cases q2 : pPs ks x.2 with
   | none => rw [q2] at h'; cases h'
   | some y =>
    rw [q2] at h'
    cases h'
    have h1 := pP_w (p := x.1) (r := x.2) q
    have h2 := pPs_w (l := y.1) (r := y.2) q2
    refine ⟨?_, by simp only [List.length_cons]; omega, Nat.le_trans h2.2.2.1 h1.2.2.2.2, fun i hi => ?_⟩
    ·show (keyP x.1 ++ keyB y.1) ++ y.2 = b
     rw [List.append_assoc, h2.1, h1.1]
    ·cases i with
     | zero => exact ⟨h1.2.1, h1.2.2.1, h1.2.2.2.1⟩
     | succ i => exact h2.2.2.2 i (by simp only [List.length_cons] at hi; omega)
noncomputable def pD (b : Str) : Option Da := match pPs kindsE b with
 | none => none
 | some p => match p.2 with
  | [] => bif bd (okDl p.1) then some (dOf p.1) else none
  | _ :: _ => none
theorem rdat_pD (b : Str) : rdat b = pD b := by
 have h := rparts_pPs kindsE b
 unfold rdat pD
 cases q : pPs kindsE b with
 | none => rw [h.2 q]; rfl
 | some p =>
  rw [h.1 p.1 p.2 q]
  obtain ⟨l, r⟩ := p
  cases r with
  | nil => simp only []; rw [bd_of (show ([] : Str).length = 0 from rfl)]; rfl
  | cons c r => simp only []; rw [bd_no (show ¬ (c :: r).length = 0 by simp)]; rfl
end Go.Px.Fe
end
section
namespace Go.Px.Fe
open Go.Proofs Go.Px.Fs
theorem kindsR_E : kindsR = kindsE := rfl
theorem len7 {l : List Pt} (h : l.length = 7) : ∃ a b c d e f g, l = [a, b, c, d, e, f, g] := by
 match l, h with
 | [a, b, c, d, e, f, g], _ => exact ⟨a, b, c, d, e, f, g, rfl⟩
theorem keyP_n {p : Pt} (h : p.val = false) : keyP p = be 8 (numK p.n) := by unfold keyP; rw [h]; rfl
theorem keyP_v {p : Pt} (h : p.val = true) : keyP p = u8i p.v.k :: body p.v := by unfold keyP; rw [h]; rfl
theorem addN_i (d : Da) : I64 (addN d) := by
 unfold addN I64
 cases d.add <;> decide
theorem be8_inj {a b : Int} (ha : I64 a) (hb : I64 b) (h : be 8 (numK a) = be 8 (numK b)) : a = b := by
 rw [← num8_be ha, ← num8_be hb, h]
theorem key_bytes {b : Str} {l : List Pt} (h : pPs kindsE b = some (l, [])) : keyD (dOf l) = b ↔ (l.getD 4 default).n = addN (dOf l) := by
 obtain ⟨h1, h2, h3, h4⟩ := pPs_w h
 rw [List.append_nil] at h1
 have hl7 : l.length = 7 := h2
 have v0 := (h4 0 (by decide)).1
 have v1 := (h4 1 (by decide)).1
 have v2 := (h4 2 (by decide)).1
 have v3 := (h4 3 (by decide)).1
 have v4 := (h4 4 (by decide)).1
 have v5 := (h4 5 (by decide)).1
 have v6 := (h4 6 (by decide)).1
 have i4 := ((h4 4 (by decide)).2.2 rfl).2
 clear h h2 h3 h4
 obtain ⟨p0, p1, p2, p3, p4, p5, p6, rfl⟩ := len7 hl7
 have v0 : p0.val = false := v0
 have v1 : p1.val = false := v1
 have v2 : p2.val = true := v2
 have v3 : p3.val = false := v3
 have v4 : p4.val = false := v4
 have v5 : p5.val = false := v5
 have v6 : p6.val = false := v6
 have i4 : I64 p4.n := i4
 have hd := addN_i (dOf [p0, p1, p2, p3, p4, p5, p6])
 have e1 : keyD (dOf [p0, p1, p2, p3, p4, p5, p6]) = be 8 (numK p0.n) ++ (be 8 (numK p1.n) ++ ((u8i p2.v.k :: body p2.v) ++ (be 8 (numK p3.n) ++ (be 8 (numK (addN (dOf [p0, p1, p2, p3, p4, p5, p6]))) ++ (be 8 (numK p5.n) ++ (be 8 (numK p6.n) ++ [])))))) := rfl
 have e2 : keyB [p0, p1, p2, p3, p4, p5, p6] = be 8 (numK p0.n) ++ (be 8 (numK p1.n) ++ ((u8i p2.v.k :: body p2.v) ++ (be 8 (numK p3.n) ++ (be 8 (numK p4.n) ++ (be 8 (numK p5.n) ++ (be 8 (numK p6.n) ++ [])))))) := by
  rw [← keyP_n v0, ← keyP_n v1, ← keyP_n v3, ← keyP_n v4, ← keyP_n v5, ← keyP_n v6, ← keyP_v v2]; rfl
 rw [e2] at h1
 rw [e1, ← h1]
 show _ ↔ p4.n = _
 constructor
 ·intro h
  have h := List.append_cancel_left h
  have h := List.append_cancel_left h
  have h := List.append_cancel_left h
  have h := List.append_cancel_left h
  have h := List.append_cancel_right h
  exact be8_inj i4 hd h.symm
 ·intro h
  rw [← h]
theorem k34 (b : Str) (hb : b.length ≤ 100000) : KOk cF 34 [.int .i64 1, bysA b] (datR (pD b)) := by
 unfold pD
 cases q : pPs kindsE b with
 | none => exact k34n b hb (by rw [kindsR_E, q]; rfl)
 | some p =>
  obtain ⟨l, r⟩ := p
  cases r with
  | cons c r => exact k34n b hb (by rw [kindsR_E, q]; rfl)
  | nil =>
   have hw := pPs_w q
   have hv := (hw.2.2.2 2 (by decide)).2.1 rfl
   have k := k34y b l hb hw.2.1 (Nat.le_trans (VaP_s hv) (by decide)) (by rw [kindsR_E, q]; rfl)
   have e : datK l b = bif bd (okDl l) then some (dOf l) else none := by
    unfold datK okDl
    by_cases hD : DaP (dOf l)
    ·rw [bd_of hD]
     by_cases hk : keyD (dOf l) = b
     ·rw [bd_of hk, bd_of ⟨hD, (key_bytes q).1 hk⟩]; rfl
     ·rw [bd_no hk, bd_no (show ¬ (DaP (dOf l) ∧ (l.getD 4 default).n = addN (dOf l)) from fun z => hk ((key_bytes q).2 z.2))]; rfl
    ·rw [bd_no hD, bd_no (show ¬ (DaP (dOf l) ∧ (l.getD 4 default).n = addN (dOf l)) from fun z => hD z.1)]; rfl
   rw [e] at k
   exact k
theorem k31' (b : Str) (hb : b.length ≤ 100000) : KOk cF 31 [.int .i64 1, bysA b] (datR (pD b)) := by
 have := k31 b hb
 rwa [rdat_pD] at this
def DaI (d : Da) : Prop := I64 d.v.n ∧ I64 d.fr ∧ I64 d.to
theorem pD_w {b : Str} {d : Da} (h : pD b = some d) : keyD d = b ∧ DaP d ∧ I64 d.fr ∧ I64 d.to := by
 unfold pD at h
 cases q : pPs kindsE b with
 | none => rw [q] at h; cases h
 | some p =>
  obtain ⟨l, r⟩ := p
  rw [q] at h
  cases r with
  | cons c r => cases h
  | nil =>
   simp only at h
   by_cases ho : okDl l
   ·rw [bd_of ho] at h
    simp only [cond_true] at h
    cases h
    have hw := pPs_w q
    exact ⟨(key_bytes q).2 ho.2, ho.1, ((hw.2.2.2 5 (by decide)).2.2 rfl).2, ((hw.2.2.2 6 (by decide)).2.2 rfl).2⟩
   ·rw [bd_no ho] at h; cases h
noncomputable def pDs : Nat → Str → Option (List Da × Str)
 | 0, b => some ([], b)
 | n + 1, b => if b.length < 2 then none else if (b.drop 2).length < valN (b.take 2) then none else (pD ((b.drop 2).take (valN (b.take 2)))).bind fun d => (pDs n ((b.drop 2).drop (valN (b.take 2)))).map fun x => (d :: x.1, x.2)
noncomputable def pTx (b : Str) : Option ((Nat × List Da) × Str) := if b.length < 12 then none else (pDs (valN ((b.drop 8).take 4)) (b.drop 12)).map fun x => ((valN (b.take 8), x.1), x.2)
theorem pDs_le : ∀ {n : Nat} {b : Str} {x : List Da × Str}, pDs n b = some x → x.2.length + 2 * x.1.length ≤ b.length
 | 0, b, x, h => by cases h; simp
 | n + 1, b, x, h => by
  unfold pDs at h
  split at h
  ·cases h
  split at h
  ·cases h
  rename_i h2 hv
  cases q : pD ((b.drop 2).take (valN (b.take 2))) with
  | none => rw [q] at h; cases h
  | some d =>
   rw [q] at h
   have h' : (pDs n ((b.drop 2).drop (valN (b.take 2)))).map (fun x => (d :: x.1, x.2)) = some x := h
   cases q2 : pDs n ((b.drop 2).drop (valN (b.take 2))) with
   | none => rw [q2] at h'; cases h'
   | some y =>
    rw [q2] at h'
    cases h'
    have := pDs_le q2
    simp only [List.length_drop, List.length_cons] at *
    omega
theorem pTx_lt {b : Str} {x : (Nat × List Da) × Str} (h : pTx b = some x) : x.2.length + 12 ≤ b.length := by
 unfold pTx at h
 split at h
 ·cases h
 cases q : pDs (valN ((b.drop 8).take 4)) (b.drop 12) with
 | none => rw [q] at h; cases h
 | some y =>
  rw [q] at h
  cases h
  have := pDs_le q
  simp only [List.length_drop] at *
  omega
noncomputable def pFeed (b : Str) : Option (List (Nat × List Da)) :=
 if b.length = 0 then some [] else
  match h : pTx b with
  | none => none
  | some x => (pFeed x.2).map (x.1 :: ·)
termination_by b.length
decreasing_by have := pTx_lt h; omega
theorem pFeed_e {b : Str} (h : b.length = 0) : pFeed b = some [] := by rw [pFeed, if_pos h]
theorem pFeed_n {b : Str} (h : b.length ≠ 0) (q : pTx b = none) : pFeed b = none := by
 rw [pFeed, if_neg h]
 split
 ·rfl
 ·rename_i x e; rw [q] at e; cases e
theorem pFeed_s {b : Str} (h : b.length ≠ 0) {x : (Nat × List Da) × Str} (q : pTx b = some x) : pFeed b = (pFeed x.2).map (x.1 :: ·) := by
 rw [pFeed, if_neg h]
 split
 ·rename_i e; rw [q] at e; cases e
 ·rename_i y e; rw [q] at e; cases e; rfl
end Go.Px.Fe
end
section
set_option maxHeartbeats 4000000
set_option maxRecDepth 20000
namespace Go.Px.Fe
open Go.Proofs Go.Px.Fs
attribute [local irreducible] Go.Px.KOk
def inR (b : Str) (fine : Bool) : List MB := [.row 68 [bysA b, .bool fine]]
theorem m32y (b : Str) (n : Nat) (h : n ≤ b.length) (hb : b.length ≤ 100000000) : KM cF 32 (inR b true) [.ptr 0 0, .int .i64 (n : Nat)] (bysA (b.take n)) (inR (b.drop n) true) := by
 refine KM.of (N := 1) (ab := [.row ⟨68, 2, .leaf, [bysA b, .bool true], none⟩]) (gv := [.ptr 0 0]) cF_ok eF.g Try.func32 rfl rfl rfl rfl (Nat.le_of_ble_eq_true rfl) rfl rfl rfl rfl rfl rfl fun w F opn gx => ?_
 have hc : (n : Int) ≤ (b.length : Int) := by omega
 repeat' first | refine Go.seq ?_ | refine Go.region rfl ?_ | refine Ops.nil ?_ | refine Go.condNp rfl Za ?_ | refine Ops.val eF rfl rfl Zw (Hop.nilC rfl rfl) ?_ | refine Ops.weakAt eF 4 rfl rfl Zw (Hop.assign rfl rfl) (weak_nil 1) ?_ | refine Ops.val eF rfl rfl Zw (by first | exact Z1 | exact Z2 | exact Z3 | exact Z4 | exact Z5 | exact Z6 | exact Y41 | exact Y42) ?_ | refine Ops.unit eF rfl Zw (Hop.store eF rfl rfl rfl rfl rfl rfl) (ArrKeep.put rfl) ?_ | refine Go.skip ?_ | refine Go.retM rfl rfl ?_ ?_ rfl
 ·rfl
 ·rw [show inR (b.drop n) true = [.row 68 [bysA (b.drop n), .bool (bd ((n : Int) ≤ (b.length : Int)))]] by rw [bd_of hc]; rfl]
  exact ⟨⟨_, rfl, rfl, rfl, rfl, rfl⟩, trivial⟩
theorem m32n (b : Str) (f : Bool) (n : Nat) (h : f = false ∨ b.length < n) (hb : b.length ≤ 100000000) : KM cF 32 (inR b f) [.ptr 0 0, .int .i64 (n : Nat)] (bysA []) (inR b false) := by
 refine KM.of (N := 1) (ab := [.row ⟨68, 2, .leaf, [bysA b, .bool f], none⟩]) (gv := [.ptr 0 0]) cF_ok eF.g Try.func32 rfl rfl rfl rfl (Nat.le_of_ble_eq_true rfl) rfl rfl rfl rfl rfl rfl fun w F opn gx => ?_
 cases f with
 | false =>
  repeat' first | refine Go.seq ?_ | refine Go.region rfl ?_ | refine Ops.nil ?_ | refine Ops.val eF rfl rfl Zw (Hop.nilC rfl rfl) ?_ | refine Ops.weakAt eF 4 rfl rfl Zw (Hop.assign rfl rfl) (weak_nil 1) ?_ | refine Ops.val eF rfl rfl Zw (by first | exact Z1 | exact Z2 | exact Z4 | exact Z5) ?_ | refine Ops.skip rfl rfl Zn ?_ | refine Ops.unit eF rfl Zw (Hop.store eF rfl rfl rfl rfl rfl rfl) (ArrKeep.put rfl) ?_ | refine Go.condT rfl ?_ | refine Go.retM rfl rfl ?_ ?_ rfl
  all_goals first
   | exact ⟨⟨_, rfl, rfl, rfl, rfl, rfl⟩, trivial⟩
   | rfl
 | true =>
  have hc : ¬ (n : Int) ≤ (b.length : Int) := by
   rcases h with h | h
   ·cases h
   ·omega
  repeat' first | refine Go.seq ?_ | refine Go.region rfl ?_ | refine Ops.nil ?_ | refine Go.condNn rfl Za ?_ | refine Ops.val eF rfl rfl Zw (Hop.nilC rfl rfl) ?_ | refine Ops.weakAt eF 4 rfl rfl Zw (Hop.assign rfl rfl) (weak_nil 1) ?_ | refine Ops.val eF rfl rfl Zw (by first | exact Z1 | exact Z2 | exact Z3 | exact Z4 | exact Z5 | exact Z6) ?_ | refine Ops.unit eF rfl Zw (Hop.store eF rfl rfl rfl rfl rfl rfl) (ArrKeep.put rfl) ?_ | refine Go.retM rfl rfl ?_ ?_ rfl
  ·rfl
  ·rw [show inR b false = [.row 68 [bysA b, .bool (bd ((n : Int) ≤ (b.length : Int)))]] by rw [bd_no hc]; rfl]
   exact ⟨⟨_, rfl, rfl, rfl, rfl, rfl⟩, trivial⟩
theorem m30 {b b' : Str} {f f' : Bool} {n : Int} {l : Str} (k1 : KM cF 32 (inR b f) [.ptr 0 0, .int .i64 n] (bysA l) (inR b' f')) (hl : l.length ≤ 8) : KM cF 30 (inR b f) [.ptr 0 0, .int .i64 n] (.int .u64 (valN l : Nat)) (inR b' f') := by
 refine KM.of (N := 1) (ab := [.row ⟨68, 2, .leaf, [bysA b, .bool f], none⟩]) (gv := [.ptr 0 0]) cF_ok eF.g Try.func30 rfl rfl rfl rfl (Nat.le_of_ble_eq_true rfl) rfl rfl rfl rfl rfl rfl fun w F opn gx => ?_
 repeat' first | refine Go.seq ?_ | refine Go.region rfl ?_ | refine Ops.nil ?_ | refine Ops.callM (v' := bysA l) (ab := [.row ⟨68, 2, .leaf, [bysA b', .bool f'], none⟩]) eF [0] 1 Zw rfl rfl rfl rfl (k1) rfl (wk_eq rfl) rfl Zb Zo rfl rfl rfl rfl rfl rfl rfl ?_ | refine Ops.val eF rfl rfl Zw (by first | exact Z1 | exact Z6) ?_ | refine Go.block ?_
 refine Go.toHQ (N := 1) (bs := [.row ⟨68, 2, .leaf, [bysA b', .bool f'], none⟩]) (L' := [(4, .int .u64 (valN (l.take 0) : Nat)), (9, bysA l), (10, .int .i64 l.length), (11, .int .i64 0)]) ?_ rfl eF.g Zt rfl rfl ⟨.inr rfl, trivial⟩ Zl rfl rfl
 refine Go.loop (fun i : Nat => [(4, .int .u64 (valN (l.take i) : Nat)), (9, bysA l), (10, .int .i64 l.length), (11, .int .i64 i)]) (fun i => hq 1 [.row ⟨68, 2, .leaf, [bysA b', .bool f'], none⟩]) (fun i => i ≤ l.length) (fun i => l.length - i) 0 (Nat.zero_le _) Zt rfl (fun i hi ih => ?_)
 have hv : (l.take i).length ≤ i := by rw [List.length_take]; omega
 have hv8 := valN_lt8 (l := l.take i) (by omega)
 by_cases c0 : (i : Int) < (l.length : Int)
 ·have hlt : i < l.length := by omega
  have hv7 := valN_lt7 (l := l.take i) (by omega)
  have g := ih (i + 1) (by omega) (by omega)
  rw [take_at hlt, valN_snoc] at g
  have hc := (l.getD (i : Int).toNat default).toNat_lt
  repeat' first | refine Go.seq ?_ | refine Go.region rfl ?_ | refine Ops.nil ?_ | refine Ops.val eF rfl rfl Zw (by first | exact Hop.addUs rfl rfl rfl (by omega) | exact Hop.addU rfl rfl rfl | exact Hop.subU rfl rfl rfl | exact Hop.mulU rfl rfl rfl | exact Hop.quoU rfl rfl rfl rfl (by omega) | exact Hop.remU rfl rfl rfl rfl (by omega) | exact Hop.xorT rfl rfl rfl (by omega) | exact Hop.orB rfl rfl rfl (by omega) (by omega) (by omega) | exact Hop.shl8 rfl rfl rfl (by omega) | exact Hop.shrN rfl rfl rfl (by omega) (by omega) | exact Hop.conv eF rfl rfl rfl rfl rfl (wr_u64 (by omega)) | exact Hop.convU64 eF rfl rfl rfl rfl rfl | exact Y20 | exact Hop.convI64 eF rfl rfl rfl rfl rfl (by omega) | exact Hop.convU8 eF rfl rfl rfl rfl rfl) ?_ | refine Ops.val eF rfl rfl Zw (by first | exact Z1 | exact Z3 | exact Y14 | exact Y24 | exact Z5) ?_ | refine Go.condTt rfl Za ?_ | refine Go.block ?_ | refine Go.unblk ?_ | refine Go.skip ?_
  try simp only [Int.toNat_natCast] at *
  refine Go.to g ⟨?_, rfl, rfl, rfl, trivial⟩
  show some (AV.int .u64 (((valN (l.take i) : Nat) : Int) * 256 % 18446744073709551616 + ((l.getD i default).toNat : Int))) = _
  refine congrArg (fun z => some (AV.int .u64 z)) ?_
  omega
 ·have ei : i = l.length := by omega
  subst ei
  rw [List.take_length] at *
  repeat' first | refine Go.seq ?_ | refine Go.region rfl ?_ | refine Ops.nil ?_ | refine Ops.val eF rfl rfl Zw (by first | exact Hop.addUs rfl rfl rfl (by omega) | exact Hop.addU rfl rfl rfl | exact Hop.subU rfl rfl rfl | exact Hop.mulU rfl rfl rfl | exact Hop.quoU rfl rfl rfl rfl (by omega) | exact Hop.remU rfl rfl rfl rfl (by omega) | exact Hop.xorT rfl rfl rfl (by omega) | exact Hop.orB rfl rfl rfl (by omega) (by omega) (by omega) | exact Hop.shl8 rfl rfl rfl (by omega) | exact Hop.shrN rfl rfl rfl (by omega) (by omega) | exact Hop.conv eF rfl rfl rfl rfl rfl (wr_u64 (by omega)) | exact Hop.convU64 eF rfl rfl rfl rfl rfl | exact Y20 | exact Hop.convI64 eF rfl rfl rfl rfl rfl (by omega) | exact Hop.convU8 eF rfl rfl rfl rfl rfl) ?_ | refine Ops.val eF rfl rfl Zw (by first | exact Z1 | exact Z3) ?_ | refine Go.condFt rfl Za ?_ | refine Go.exit rfl ?_ | refine Go.retM rfl rfl ?_ ?_ rfl
  ·rfl
  ·exact ⟨⟨_, rfl, rfl, rfl, rfl, rfl⟩, trivial⟩
end Go.Px.Fe
end
section
set_option maxRecDepth 20000
namespace Go.Px.Fe
open Go.Proofs Go.Px.Fs
def inT (b : Str) (f : Bool) (n : Nat) : Str × Str × Bool := if f = true ∧ n ≤ b.length then (b.take n, b.drop n, true) else ([], b, false)
theorem inT_y {b : Str} {n : Nat} (h : n ≤ b.length) : inT b true n = (b.take n, b.drop n, true) := if_pos ⟨rfl, h⟩
theorem inT_n {b : Str} {f : Bool} {n : Nat} (h : ¬ (f = true ∧ n ≤ b.length)) : inT b f n = ([], b, false) := if_neg h
theorem inT_le (b : Str) (f : Bool) (n : Nat) : (inT b f n).1.length ≤ n ∧ (inT b f n).1.length ≤ b.length ∧ (inT b f n).2.1.length ≤ b.length := by
 unfold inT
 split
 ·simp only [List.length_take, List.length_drop]; omega
 ·simp
theorem m32 (b : Str) (f : Bool) (n : Nat) (hb : b.length ≤ 100000000) : KM cF 32 (inR b f) [.ptr 0 0, .int .i64 (n : Nat)] (bysA (inT b f n).1) (inR (inT b f n).2.1 (inT b f n).2.2) := by
 by_cases h : f = true ∧ n ≤ b.length
 ·obtain ⟨rfl, h⟩ := h
  rw [inT_y h]
  exact m32y b n h hb
 ·rw [inT_n h]
  refine m32n b f n ?_ hb
  cases f with
  | false => exact .inl rfl
  | true => exact .inr (by have : ¬ n ≤ b.length := fun q => h ⟨rfl, q⟩; omega)
theorem m30i (b : Str) (f : Bool) (n : Nat) (hn : n ≤ 8) (hb : b.length ≤ 100000000) : KM cF 30 (inR b f) [.ptr 0 0, .int .i64 (n : Nat)] (.int .u64 (valN (inT b f n).1 : Nat)) (inR (inT b f n).2.1 (inT b f n).2.2) :=
 m30 (m32 b f n hb) (Nat.le_trans (inT_le b f n).1 hn)
theorem pTx_in {c l8 c8 l4 c4 : Str} {f8 f4 : Bool} (h8 : inT c true 8 = (l8, c8, f8)) (h4 : inT c8 f8 4 = (l4, c4, f4)) :
  (f4 = true → c4.length + 12 ≤ c.length ∧ pTx c = (pDs (valN l4) c4).map fun x => ((valN l8, x.1), x.2)) ∧ (f4 = false → pTx c = none) ∧ l8.length ≤ 8 ∧ l4.length ≤ 4 ∧ c8.length ≤ c.length ∧ c4.length ≤ c.length := by
 have e8 := inT_le c true 8
 have e4 := inT_le c8 f8 4
 rw [h8] at e8
 rw [h4] at e4
 simp only at e8 e4
 refine ⟨fun h => ?_, fun h => ?_, e8.1, e4.1, e8.2.2, by omega⟩
 ·by_cases k4 : f8 = true ∧ 4 ≤ c8.length
  ·obtain ⟨rfl, k4⟩ := k4
   rw [inT_y k4] at h4
   cases h4
   by_cases k8 : 8 ≤ c.length
   ·rw [inT_y k8] at h8
    cases h8
    simp only [List.length_drop] at k4 ⊢
    refine ⟨by omega, ?_⟩
    unfold pTx
    rw [if_neg (by omega), List.drop_drop]
   ·rw [inT_n (fun q => k8 q.2)] at h8
    cases h8
  ·rw [inT_n k4] at h4
   cases h4
   cases h
 ·unfold pTx
  by_cases k : c.length < 12
  ·rw [if_pos k]
  ·exfalso
   rw [inT_y (show 8 ≤ c.length by omega)] at h8
   cases h8
   rw [inT_y (by rw [List.length_drop]; omega)] at h4
   cases h4
   cases h
theorem pDs_in {c l2 c2 lk ck : Str} {f2 fk : Bool} (n : Nat) (h2 : inT c true 2 = (l2, c2, f2)) (hk : inT c2 f2 (valN l2) = (lk, ck, fk)) :
  (fk = true → pDs (n + 1) c = (pD lk).bind fun d => (pDs n ck).map fun x => (d :: x.1, x.2)) ∧ (fk = true → ck.length + 2 ≤ c.length) ∧ (fk = false → pDs (n + 1) c = none) ∧ l2.length ≤ 2 ∧ c2.length ≤ c.length ∧ ck.length ≤ c.length ∧ lk.length ≤ c.length := by
 have e2 := inT_le c true 2
 have ek := inT_le c2 f2 (valN l2)
 rw [h2] at e2
 rw [hk] at ek
 simp only at e2 ek
 refine ⟨fun h => ?_, fun h => ?_, fun h => ?_, e2.1, e2.2.2, by omega, by omega⟩
 ·by_cases kk : f2 = true ∧ valN l2 ≤ c2.length
  ·obtain ⟨rfl, kk⟩ := kk
   rw [inT_y kk] at hk
   cases hk
   by_cases k2 : 2 ≤ c.length
   ·rw [inT_y k2] at h2
    cases h2
    rw [pDs, if_neg (by omega), if_neg (by omega)]
   ·rw [inT_n (fun q => k2 q.2)] at h2
    cases h2
  ·rw [inT_n kk] at hk
   cases hk
   cases h
 ·by_cases kk : f2 = true ∧ valN l2 ≤ c2.length
  ·obtain ⟨rfl, kk⟩ := kk
   rw [inT_y kk] at hk
   cases hk
   by_cases k2 : 2 ≤ c.length
   ·rw [inT_y k2] at h2
    cases h2
    simp only [List.length_drop] at *
    omega
   ·rw [inT_n (fun q => k2 q.2)] at h2
    cases h2
  ·rw [inT_n kk] at hk
   cases hk
   cases h
 ·rw [pDs]
  by_cases k2 : c.length < 2
  ·rw [if_pos k2]
  ·rw [if_neg k2]
   rw [inT_y (show 2 ≤ c.length by omega)] at h2
   cases h2
   by_cases kk : (c.drop 2).length < valN (c.take 2)
   ·rw [if_pos kk]
   ·exfalso
    rw [inT_y (by omega)] at hk
    cases hk
    cases h
noncomputable def dV (x : Option Da) : Da := match x with | some d => d | none => default
noncomputable def dE (x : Option Da) : Int := match x with | some _ => 0 | none => 40
theorem datR_e (x : Option Da) : datR x = .tup [.agg (encDa (dV x)), .int .i64 (dE x)] := by cases x <;> rfl
theorem dE_n {x : Option Da} (h : bd (dE x = 0) = false) : x = none := by
 cases x with
 | none => rfl
 | some d => rw [bd_of (show dE (some d) = 0 from rfl)] at h; cases h
theorem dE_s {x : Option Da} (h : bd (dE x = 0) = true) : x = some (dV x) := by
 cases x with
 | none => rw [bd_no (show ¬ dE none = 0 by decide)] at h; cases h
 | some d => rfl
def toTx (τ : Nat → Int) (x : Nat × List Da) : Tx := ⟨τ x.1, x.2⟩
def sgT (n : Nat) : Int := sgn (n : Nat)
noncomputable def pRead (τ : Nat → Int) (b : Str) : Option (List Tx) := match pFeed b with
 | none => none
 | some raw => bif bd (AllT (raw.map (toTx τ))) then some (raw.map (toTx τ)) else none
noncomputable def feedR (x : Option (List Tx)) : AV := match x with
 | some l => .tup [txsA l, .int .i64 0]
 | none => .tup [.nilsl, .int .i64 270]
theorem pDs_w : ∀ {n : Nat} {b : Str} {x : List Da × Str}, pDs n b = some x → x.1.flatMap dB ++ x.2 = b ∧ x.1.length = n ∧ ∀ d, d ∈ x.1 → DaP d ∧ I64 d.fr ∧ I64 d.to
 | 0, b, x, h => by cases h; exact ⟨rfl, rfl, fun d q => by cases q⟩
 | n + 1, b, x, h => by
  unfold pDs at h
  split at h
  ·cases h
  split at h
  ·cases h
  rename_i h2 hv
  cases q : pD ((b.drop 2).take (valN (b.take 2))) with
  | none => rw [q] at h; cases h
  | some d =>
   rw [q] at h
   have h' : (pDs n ((b.drop 2).drop (valN (b.take 2)))).map (fun x => (d :: x.1, x.2)) = some x := h
   cases q2 : pDs n ((b.drop 2).drop (valN (b.take 2))) with
   | none => rw [q2] at h'; cases h'
   | some y =>
    rw [q2] at h'
    cases h'
    have ih := pDs_w q2
    have hd := pD_w q
    refine ⟨?_, by simp only [List.length_cons]; omega, fun e he => ?_⟩
    ·show (be 2 (keyD d).length ++ keyD d ++ y.1.flatMap dB) ++ y.2 = b
     have hl : (keyD d).length = valN (b.take 2) := by rw [hd.1, List.length_take]; omega
     rw [List.append_assoc, ih.1, hl, be_valN (by rw [List.length_take]; omega), hd.1, List.append_assoc, List.take_append_drop, List.take_append_drop]
    ·rcases List.mem_cons.1 he with rfl | he
     ·exact hd.2
     ·exact ih.2.2 e he
end Go.Px.Fe
end
section
set_option maxRecDepth 20000
namespace Go.Px.Fe
open Go.Proofs Go.Px.Fs
def rawB (x : Nat × List Da) : Str := be 8 x.1 ++ be 4 x.2.length ++ x.2.flatMap dB
def okRaw (B : Nat) (x : Nat × List Da) : Prop := x.1 < 18446744073709551616 ∧ 2 * x.2.length ≤ B ∧ ∀ d, d ∈ x.2 → DaP d ∧ I64 d.fr ∧ I64 d.to
theorem pTx_w {b : Str} {x : (Nat × List Da) × Str} (h : pTx b = some x) : rawB x.1 ++ x.2 = b ∧ okRaw b.length x.1 := by
 unfold pTx at h
 split at h
 ·cases h
 rename_i h12
 cases q : pDs (valN ((b.drop 8).take 4)) (b.drop 12) with
 | none => rw [q] at h; cases h
 | some y =>
  rw [q] at h
  have hw := pDs_w q
  have hle := pDs_le q
  have hv := valN_lt8 (l := b.take 8) (by rw [List.length_take]; omega)
  have e8 : be 8 (valN (b.take 8)) = b.take 8 := be_valN (by rw [List.length_take]; omega)
  have e4 : be 4 (valN ((b.drop 8).take 4)) = (b.drop 8).take 4 := be_valN (by rw [List.length_take, List.length_drop]; omega)
  have hb2 : 2 * y.1.length ≤ b.length := by rw [List.length_drop] at hle; omega
  cases h
  refine ⟨?_, hv, hb2, hw.2.2⟩
  show be 8 (valN (b.take 8)) ++ be 4 y.1.length ++ y.1.flatMap dB ++ y.2 = b
  rw [hw.2.1, e8, e4, List.append_assoc, hw.1, List.append_assoc, show b.drop 12 = (b.drop 8).drop 4 by rw [List.drop_drop], List.take_append_drop, List.take_append_drop]
theorem pFeed_w (b : Str) (raw : List (Nat × List Da)) (h : pFeed b = some raw) : raw.flatMap rawB = b ∧ ∀ x, x ∈ raw → okRaw b.length x := by
 by_cases h0 : b.length = 0
 ·rw [pFeed_e h0] at h
  cases h
  exact ⟨(List.eq_nil_of_length_eq_zero h0).symm, fun x hx => by cases hx⟩
 ·cases q : pTx b with
  | none => rw [pFeed_n h0 q] at h; cases h
  | some x =>
   rw [pFeed_s h0 q] at h
   cases q2 : pFeed x.2 with
   | none => rw [q2] at h; cases h
   | some r =>
    rw [q2] at h
    cases h
    have hlt := pTx_lt q
    have hw := pTx_w q
    have ih := pFeed_w x.2 r q2
    refine ⟨by show rawB x.1 ++ r.flatMap rawB = b; rw [ih.1, hw.1], fun y hy => ?_⟩
    rcases List.mem_cons.1 hy with rfl | hy
    ·exact hw.2
    ·have := ih.2 y hy
     exact ⟨this.1, by have := this.2.1; omega, this.2.2⟩
termination_by b.length
decreasing_by omega
theorem rawB_len (x : Nat × List Da) : 12 ≤ (rawB x).length := by
 unfold rawB
 simp only [List.length_append, be_len]; omega
theorem raws_len : ∀ raw : List (Nat × List Da), 12 * raw.length ≤ (raw.flatMap rawB).length
 | [] => by simp
 | x :: r => by
  have := raws_len r
  have := rawB_len x
  simp only [List.flatMap_cons, List.length_append, List.length_cons]; omega
theorem getD_or {α : Type} {l : List α} {d : α} (i : Nat) : l.getD i d = d ∨ l.getD i d ∈ l := by
 by_cases h : i < l.length
 ·right
  rw [List.getD_eq_getElem?_getD, List.getElem?_eq_getElem h]
  exact List.getElem_mem h
 ·left
  rw [List.getD_eq_getElem?_getD, List.getElem?_eq_none (by omega)]; rfl
theorem raw_small {b : Str} {raw : List (Nat × List Da)} (τ : Nat → Int) (h : pFeed b = some raw) : (raw.map (toTx τ)).length ≤ b.length ∧ (∀ i, ((raw.map (toTx τ)).getD i default).l.length ≤ b.length) ∧ ∀ i k, (((raw.map (toTx τ)).getD i default).l.getD k default).v.s.length ≤ 2000 := by
 have hw := pFeed_w b raw h
 refine ⟨?_, fun i => ?_, fun i k => ?_⟩
 ·have := raws_len raw
  rw [hw.1] at this
  rw [List.length_map]; omega
 ·rcases getD_or (l := raw.map (toTx τ)) (d := default) i with e | e
  ·rw [e]; exact Nat.zero_le _
  ·obtain ⟨x, hx, hx'⟩ := List.mem_map.1 e
   rw [← hx']
   have := (hw.2 x hx).2.1
   show x.2.length ≤ _
   omega
 ·rcases getD_or (l := raw.map (toTx τ)) (d := default) i with e | e
  ·rw [e]; exact Nat.zero_le _
  ·obtain ⟨x, hx, hx'⟩ := List.mem_map.1 e
   rw [← hx']
   show (x.2.getD k default).v.s.length ≤ _
   rcases getD_or (l := x.2) (d := default) k with e2 | e2
   ·rw [e2]; exact Nat.zero_le _
   ·exact Nat.le_trans (VaP_s ((hw.2 x hx).2.2 _ e2).1.2.2.1) (by decide)
def tauR (n : Nat) : Int := if 1099511627776 < n / 256 then -1 else n
theorem numR_tau : ∀ (l : Str) (v : Nat), l ≠ [] → numR l v = tauR (valF v l)
 | [], v, h => absurd rfl h
 | c :: r, v, _ => by
  have hc := c.toNat_lt
  have hge := valF_add (v * 256 + c.toNat) r
  rw [numR]
  by_cases hv : 1099511627776 < (v : Int)
  ·rw [bd_of hv]
   show -1 = tauR (valF (v * 256 + c.toNat) r)
   have : v * 256 + c.toNat ≤ valF (v * 256 + c.toNat) r := by
    rw [hge]
    have := Nat.le_mul_of_pos_right (v * 256 + c.toNat) (show 0 < 256 ^ r.length from Nat.pow_pos (by decide))
    omega
   unfold tauR
   rw [if_pos (by omega)]
  ·rw [bd_no hv]
   show numR r (256 * (v : Int) + (c.toNat : Int)) = tauR (valF (v * 256 + c.toNat) r)
   rw [show 256 * (v : Int) + (c.toNat : Int) = ((v * 256 + c.toNat : Nat) : Int) by omega]
   cases r with
   | nil =>
    show ((v * 256 + c.toNat : Nat) : Int) = tauR (v * 256 + c.toNat)
    unfold tauR
    rw [if_neg (by omega)]
   | cons d r => exact numR_tau (d :: r) _ (by simp)
theorem tau_same {n : Nat} (h : n < 18446744073709551616) : ((1 ≤ sgT n ∧ sgT n ≤ 1099511627776) ∨ (1 ≤ tauR n ∧ tauR n ≤ 1099511627776)) → sgT n = tauR n := by
 unfold sgT tauR sgn
 split <;> split <;> omega
theorem sgT_nat {n : Nat} (h : n < 18446744073709551616) (h1 : 1 ≤ sgT n) : (sgT n).toNat = n := by
 unfold sgT sgn at h1 ⊢
 split at h1 <;> split <;> omega
theorem allT_mem {l : List Tx} (h : AllT l) {x : Tx} (hx : x ∈ l) : 1 ≤ x.t ∧ x.t ≤ 1099511627776 ∧ ∀ d, d ∈ x.l → DaP d := by
 obtain ⟨i, hi, rfl⟩ := List.getElem_of_mem hx
 have := h i hi
 have e : l.getD i default = l[i] := by rw [List.getD_eq_getElem?_getD, List.getElem?_eq_getElem hi]; rfl
 unfold okTx okUp hdP okD at this
 rw [e] at this
 refine ⟨this.1.1, this.1.2.1, fun d hd => ?_⟩
 obtain ⟨j, hj, rfl⟩ := List.getElem_of_mem hd
 have := (this.2 j hj).2.1
 rw [List.getD_eq_getElem?_getD, List.getElem?_eq_getElem hj] at this
 exact this
theorem allT_raw {τ : Nat → Int} {raw : List (Nat × List Da)} (h : AllT (raw.map (toTx τ))) {x : Nat × List Da} (hx : x ∈ raw) : 1 ≤ τ x.1 ∧ τ x.1 ≤ 1099511627776 ∧ ∀ d, d ∈ x.2 → DaP d := by
 have h1 := allT_mem h (List.mem_map_of_mem (f := toTx τ) hx)
 have e : (toTx τ x).t = τ x.1 := rfl
 have e2 : (toTx τ x).l = x.2 := rfl
 rw [e, e2] at h1
 exact h1
theorem pRead_gen (τ1 τ2 : Nat → Int) (H : ∀ n, n < 18446744073709551616 → ((1 ≤ τ1 n ∧ τ1 n ≤ 1099511627776) ∨ (1 ≤ τ2 n ∧ τ2 n ≤ 1099511627776)) → τ2 n = τ1 n) (b : Str) : pRead τ1 b = pRead τ2 b := by
 unfold pRead
 cases q : pFeed b with
 | none => rfl
 | some raw =>
  simp only []
  have hw := pFeed_w b raw q
  have key : AllT (raw.map (toTx τ1)) ∨ AllT (raw.map (toTx τ2)) → raw.map (toTx τ1) = raw.map (toTx τ2) := by
   intro h
   refine List.map_congr_left fun x hx => ?_
   have h64 := (hw.2 x hx).1
   have e : τ2 x.1 = τ1 x.1 := by
    refine H x.1 h64 ?_
    rcases h with h | h
    ·have h1 := allT_raw h hx
     exact .inl ⟨h1.1, h1.2.1⟩
    ·have h1 := allT_raw h hx
     exact .inr ⟨h1.1, h1.2.1⟩
   unfold toTx
   rw [e]
  by_cases h : AllT (raw.map (toTx τ1)) ∨ AllT (raw.map (toTx τ2))
  ·rw [key h]
  ·rw [bd_no (show ¬ AllT (raw.map (toTx τ1)) from fun q => h (.inl q)), bd_no (show ¬ AllT (raw.map (toTx τ2)) from fun q => h (.inr q))]; rfl
theorem pRead_tau (b : Str) : pRead tauR b = pRead sgT b := pRead_gen tauR sgT (fun n h q => tau_same h q.symm) b
theorem raw_feed : ∀ (τ : Nat → Int) (r : List (Nat × List Da)), (∀ x, x ∈ r → txB (toTx τ x) = rawB x) → feedB (r.map (toTx τ)) = r.flatMap rawB
 | τ, [], _ => rfl
 | τ, x :: r, h => by
  show txB (toTx τ x) ++ feedB (r.map (toTx τ)) = rawB x ++ r.flatMap rawB
  rw [h x List.mem_cons_self, raw_feed τ r (fun y hy => h y (List.mem_cons_of_mem _ hy))]
theorem pRead_wg (τ : Nat → Int) (H : ∀ n, n < 18446744073709551616 → 1 ≤ τ n → (τ n).toNat = n) {b : Str} {l : List Tx} (h : pRead τ b = some l) : feedB l = b ∧ AllT l ∧ ∃ raw, pFeed b = some raw ∧ l = raw.map (toTx τ) := by
 unfold pRead at h
 cases q : pFeed b with
 | none => rw [q] at h; cases h
 | some raw =>
  rw [q] at h
  simp only at h
  by_cases hA : AllT (raw.map (toTx τ))
  ·rw [bd_of hA] at h
   cases h
   have hw := pFeed_w b raw q
   refine ⟨?_, hA, raw, rfl, rfl⟩
   rw [← hw.1]
   refine raw_feed τ raw fun x hx => ?_
   have h1 := allT_raw hA hx
   have e := H x.1 (hw.2 x hx).1 h1.1
   show be 8 (τ x.1).toNat ++ be 4 x.2.length ++ x.2.flatMap dB = _
   rw [e]; rfl
  ·rw [bd_no hA] at h; cases h
theorem pRead_w {b : Str} {l : List Tx} (h : pRead sgT b = some l) : feedB l = b ∧ AllT l ∧ ∃ raw, pFeed b = some raw ∧ l = raw.map (toTx sgT) := pRead_wg sgT (fun n h h1 => sgT_nat h h1) h
end Go.Px.Fe
end
