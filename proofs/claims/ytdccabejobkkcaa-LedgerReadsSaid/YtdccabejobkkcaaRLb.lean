/- Parts of the proof in YtdccabejobkkcaaRFin: LrC, LrD. -/
import Derived.Test.YtdccabejobkkcaaRLa
import Derived.Test.YtdccabejobkkcaaRK4
set_option linter.unusedVariables false
set_option linter.unusedSimpArgs false
section
set_option maxHeartbeats 4000000
set_option maxRecDepth 20000
namespace Go.Px.Lr
open Go.Proofs
attribute [local irreducible] Go.Px.KOk
theorem eqNilB (x : UInt8) (l : Str) : eqv cF 6 30 (bysA (x :: l)) .nilsl = some false := by kernel_rfl
theorem flB (l : Str) : (l.flatMap byC).length = l.length * 1 := flat_len (enc := byC) (z := 1) (fun _ => rfl) l
theorem k25n : KOk cF 25 [.nilsl] .nilsl := by
 refine KOk.of cF_ok eF.g Try.func25 rfl (Nat.le_of_ble_eq_true rfl) fun w F => ?_
 repeat' first | refine Go.seq ?_ | refine Go.region rfl ?_ | refine Ops.nil ?_ | refine Ops.val eF rfl rfl Zw (by exact Hop.eqD rfl rfl rfl rfl (show eqv cF 6 30 .nilsl .nilsl = some true by kernel_rfl)) ?_ | refine Ops.val eF rfl rfl Zw Z1 ?_ | refine Go.condT rfl ?_ | refine Go.retF rfl ?_ rfl
 all_goals rfl
theorem k25 (b : Str) (hb : b.length ≤ 1000000) : KOk cF 25 [bysA b] (bysA b) := by
 cases b with
 | nil =>
  refine KOk.of cF_ok eF.g Try.func25 rfl (Nat.le_of_ble_eq_true rfl) fun w F => ?_
  repeat' first | refine Go.seq ?_ | refine Go.region rfl ?_ | refine Ops.nil ?_ | refine Ops.nilQ eF rfl rfl Zw rfl rfl rfl rfl (fun q => ?_) | refine Ops.val eF rfl rfl Zw Z1 ?_ | fail
  cases q
  ·repeat' first | refine Go.seq ?_ | refine Go.region rfl ?_ | refine Ops.nil ?_ | refine Ops.weakAt eF 7 rfl rfl Zw (Hop.appC0 eF (z := 1) rfl rfl rfl rfl rfl rfl rfl rfl rfl rfl rfl rfl rfl rfl rfl rfl) (weak_csl0 1) ?_ | refine Ops.val eF rfl rfl Zw Z1 ?_ | refine Ops.csl0 eF 0 rfl rfl Zw rfl rfl rfl rfl rfl ?_ | refine Go.condF rfl ?_ | refine Go.skip ?_ | refine Go.retF rfl ?_ rfl
   all_goals rfl
  ·repeat' first | refine Go.seq ?_ | refine Go.region rfl ?_ | refine Ops.nil ?_ | refine Ops.weakAt eF 2 rfl rfl Zw (Hop.assign rfl rfl) (weak_nil 1) ?_ | refine Go.condT rfl ?_ | refine Go.retF rfl ?_ rfl
   all_goals rfl
 | cons x l =>
  refine KOk.of cF_ok eF.g Try.func25 rfl (Nat.le_of_ble_eq_true rfl) fun w F => ?_
  repeat' first | refine Go.seq ?_ | refine Go.region rfl ?_ | refine Ops.nil ?_ | refine Ops.val eF rfl rfl Zw (by exact Hop.eqD rfl rfl rfl rfl (eqNilB _ _)) ?_ | refine Ops.val eF rfl rfl Zw Z1 ?_ | refine Ops.csl0 eF 0 rfl rfl Zw rfl rfl rfl rfl rfl ?_ | refine Go.condF rfl ?_ | refine Go.skip ?_
  refine Ops.clone eF rfl rfl (Want.no rfl) rfl rfl rfl rfl rfl rfl rfl rfl rfl rfl rfl rfl rfl rfl rfl rfl rfl (dats_flat (fun _ => rfl) _) (flB _) (by simp) (by omega) ?_
  repeat' first | refine Ops.nil ?_ | refine Ops.val eF rfl rfl Zw Z1 ?_ | refine Go.retF rfl ?_ rfl
  all_goals rfl
end Go.Px.Lr
end
section
namespace Go.Px.Lr
def n4 (b : Str) : Nat := (((b.getD 0 default).toNat * 256 + (b.getD 1 default).toNat) * 256 + (b.getD 2 default).toNat) * 256 + (b.getD 3 default).toNat
theorem u8lt (x : UInt8) : x.toNat < 256 := x.toNat_lt
theorem n4_lt (b : Str) : n4 b < 4294967296 := by
 unfold n4
 have h0 := u8lt (b.getD 0 default); have h1 := u8lt (b.getD 1 default); have h2 := u8lt (b.getD 2 default); have h3 := u8lt (b.getD 3 default)
 omega
theorem getD_drop (b : Str) (a i : Nat) : (b.drop a).getD i default = b.getD (a + i) default := by
 rw [List.getD_eq_getElem?_getD, List.getElem?_drop, ← List.getD_eq_getElem?_getD]
theorem n4_drop (b : Str) (a : Nat) : n4 (b.drop a) = (((b.getD a default).toNat * 256 + (b.getD (a + 1) default).toNat) * 256 + (b.getD (a + 2) default).toNat) * 256 + (b.getD (a + 3) default).toNat := by
 unfold n4; simp only [getD_drop, Nat.add_zero]
def OkR (b : Str) : Prop := 4 ≤ b.length ∧ n4 b ≤ 65536 ∧ n4 b ≤ b.length - 4
instance (b : Str) : Decidable (OkR b) := inferInstanceAs (Decidable (_ ∧ _ ∧ _))
def recsF : Nat → Str → List Str × Bool
 | 0, _ => ([], true)
 | f + 1, b => if b.length = 0 then ([], true) else if OkR b then ((b.drop 4).take (n4 b) :: (recsF f (b.drop (4 + n4 b))).1, (recsF f (b.drop (4 + n4 b))).2) else ([], false)
def recs (b : Str) : List Str × Bool := recsF b.length b
theorem recsF_any : ∀ (f g : Nat) (b : Str), b.length ≤ f → b.length ≤ g → recsF f b = recsF g b
 | 0, 0, b, _, _ => rfl
 | 0, g + 1, b, h, _ => by
  have : b.length = 0 := by omega
  simp [recsF, this]
 | f + 1, 0, b, _, h => by
  have : b.length = 0 := by omega
  simp [recsF, this]
 | f + 1, g + 1, b, h1, h2 => by
  have ih := recsF_any f g (b.drop (4 + n4 b))
  simp only [recsF]
  by_cases h0 : b.length = 0
  ·rw [if_pos h0, if_pos h0]
  ·rw [if_neg h0, if_neg h0, ih (by rw [List.length_drop]; omega) (by rw [List.length_drop]; omega)]
theorem recs_nil {b : Str} (h : b.length = 0) : recs b = ([], true) := by unfold recs; rw [h]; rfl
theorem recs_bad {b : Str} (h0 : b.length ≠ 0) (h : ¬ OkR b) : recs b = ([], false) := by
 unfold recs
 cases hl : b.length with
 | zero => exact absurd hl h0
 | succ n => simp only [recsF]; rw [if_neg h0, if_neg h]
theorem recs_ok {b : Str} (h0 : b.length ≠ 0) (h : OkR b) : recs b = ((b.drop 4).take (n4 b) :: (recs (b.drop (4 + n4 b))).1, (recs (b.drop (4 + n4 b))).2) := by
 unfold recs
 cases hl : b.length with
 | zero => exact absurd hl h0
 | succ n =>
  simp only [recsF]; rw [if_neg h0, if_pos h]
  rw [recsF_any n _ (b.drop (4 + n4 b)) (by rw [List.length_drop]; omega) (Nat.le_refl _)]
theorem drop_all (b : Str) : recs (b.drop b.length) = ([], true) := recs_nil (by simp)
theorem recs_le : ∀ (f : Nat) (b : Str), b.length ≤ f → (recs b).1.length ≤ b.length
 | 0, b, h => by rw [recs_nil (by omega)]; simp
 | f + 1, b, h => by
  by_cases h0 : b.length = 0
  ·rw [recs_nil h0]; simp
  ·by_cases ho : OkR b
   ·rw [recs_ok h0 ho]
    have ih := recs_le f (b.drop (4 + n4 b)) (by rw [List.length_drop]; omega)
    rw [List.length_drop] at ih
    have h4 := ho.1
    simp only [List.length_cons]; omega
   ·rw [recs_bad h0 ho]; simp
theorem recs_mem : ∀ (f : Nat) (b : Str), b.length ≤ f → ∀ r ∈ (recs b).1, r.length ≤ b.length
 | 0, b, h => by rw [recs_nil (by omega)]; simp
 | f + 1, b, h => by
  by_cases h0 : b.length = 0
  ·rw [recs_nil h0]; simp
  ·by_cases ho : OkR b
   ·rw [recs_ok h0 ho]
    have ih := recs_mem f (b.drop (4 + n4 b)) (by rw [List.length_drop]; omega)
    intro r hr
    rcases List.mem_cons.1 hr with rfl | hr
    ·rw [List.length_take, List.length_drop]; omega
    ·have := ih r hr; rw [List.length_drop] at this; omega
   ·rw [recs_bad h0 ho]; simp
def be4 (n : Nat) : Str := [UInt8.ofNat (n / 16777216), UInt8.ofNat (n / 65536 % 256), UInt8.ofNat (n / 256 % 256), UInt8.ofNat (n % 256)]
def bts (l : List Str) : Str := l.flatMap fun r => be4 r.length ++ r
theorem u8of (x : UInt8) {m : Nat} (h : m = x.toNat) : UInt8.ofNat m = x := by subst h; simp
theorem be4_n4 {b : Str} (h : 4 ≤ b.length) : be4 (n4 b) = b.take 4 := by
 match b, h with
 | x0 :: x1 :: x2 :: x3 :: r, _ =>
  have h0 := u8lt x0; have h1 := u8lt x1; have h2 := u8lt x2; have h3 := u8lt x3
  have e : n4 (x0 :: x1 :: x2 :: x3 :: r) = ((x0.toNat * 256 + x1.toNat) * 256 + x2.toNat) * 256 + x3.toNat := rfl
  unfold be4
  rw [e, u8of x0 (by omega), u8of x1 (by omega), u8of x2 (by omega), u8of x3 (by omega)]
  rfl
theorem bts_recs : ∀ (f : Nat) (b : Str), b.length ≤ f → (recs b).2 = true → bts (recs b).1 = b
 | 0, b, h, _ => by
  have : b = [] := List.length_eq_zero_iff.1 (by omega)
  subst this; rfl
 | f + 1, b, h, hq => by
  by_cases h0 : b.length = 0
  ·have : b = [] := List.length_eq_zero_iff.1 h0
   subst this; rfl
  ·by_cases ho : OkR b
   ·rw [recs_ok h0 ho] at hq ⊢
    have ih := bts_recs f (b.drop (4 + n4 b)) (by rw [List.length_drop]; omega) hq
    obtain ⟨h4, h5, h6⟩ := ho
    simp only [bts, List.flatMap_cons] at ih ⊢
    rw [ih, List.length_take, List.length_drop, Nat.min_eq_left h6, be4_n4 h4, List.append_assoc]
    have : (b.drop 4).take (n4 b) ++ b.drop (4 + n4 b) = b.drop 4 := by
     rw [← List.drop_drop, List.take_append_drop]
    rw [this, List.take_append_drop]
   ·rw [recs_bad h0 ho] at hq; cases hq
def SegsP (l : List Str) : Prop := (∀ i, i < l.length → (recs (l.getD i default)).2 = true) ∧ ∀ i, i + 1 < l.length → (recs (l.getD i default)).1.length ≠ 0
def segs (l : List Str) : List (List Str) := l.map fun b => (recs b).1
end Go.Px.Lr
end
