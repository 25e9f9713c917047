import Derived.Test.YtanemlbfkihbkaaB
import Derived.ProofKit
namespace Go.Proofs.Ytanemlbfkihbkaa
open Go.RowKit

set_option maxHeartbeats 400000 in
theorem named7_no (s : ByteArray) (w : World) (hb : (s.size : Int) < 1 ∨ (1 ≤ (s.size : Int) ∧ 64 < (s.size : Int)) ∨ (1 ≤ (s.size : Int) ∧ (s.size : Int) ≤ 64 ∧ (s.toList == [116, 114, 117, 101]) = true) ∨ (1 ≤ (s.size : Int) ∧ (s.size : Int) ≤ 64 ∧ (s.toList == [116, 114, 117, 101]) = false ∧ (s.toList == [102, 97, 108, 115, 101]) = true)) (_hs : s.size ≤ 9223372036854775807) :
    Calls Try.prog 7 #[.string s] w fun e w' => e = .returned (.bool false) ∧ w = w' := by
  rcases hb with h | ⟨h1, h2⟩ | ⟨h1, h2, h3⟩ | ⟨h1, h2, h3, h4⟩
  · have e : ((s.size : Int) == 0) = true := beq_iff_eq.2 (by omega)
    go_enter Try.func7, Try.ntmps7
    go_wp2_with fail
    go_ret
    exact ⟨rfl, rfl⟩
  all_goals
    have e : ((s.size : Int) == 0) = false := beq_eq_false_iff_ne.2 (by omega)
    go_enter Try.func7, Try.ntmps7
    go_wp2_with fail
    go_ret
    exact ⟨rfl, rfl⟩

theorem named7 (s : ByteArray) (w : World) (hs : s.size ≤ 9223372036854775807) :
    Calls Try.prog 7 #[.string s] w fun e w' => e = .returned (.bool (nam6 s)) ∧ w = w' := by
  by_cases h0 : (s.size : Int) < 1
  · have : nam6 s = false := by unfold nam6; rw [decide_eq_true h0]; rfl
    rw [this]; exact named7_no s w (.inl h0) hs
  by_cases h1 : (64 : Int) < s.size
  · have : nam6 s = false := by unfold nam6; rw [decide_eq_true h1]; simp
    rw [this]; exact named7_no s w (.inr (.inl ⟨by omega, h1⟩)) hs
  by_cases h2 : (s.toList == [116, 114, 117, 101]) = true
  · have : nam6 s = false := by unfold nam6; rw [h2]; simp
    rw [this]; exact named7_no s w (.inr (.inr (.inl ⟨by omega, by omega, h2⟩))) hs
  by_cases h3 : (s.toList == [102, 97, 108, 115, 101]) = true
  · have : nam6 s = false := by unfold nam6; rw [h3]; simp
    rw [this]; exact named7_no s w (.inr (.inr (.inr ⟨by omega, by omega, by simpa using h2, h3⟩))) hs
  have h2' : (s.toList == [116, 114, 117, 101]) = false := by simpa using h2
  have h3' : (s.toList == [102, 97, 108, 115, 101]) = false := by simpa using h3
  have : nam6 s = (s.data.toList.all okc && tail6 s) := by
    unfold nam6; rw [h2', h3', decide_eq_false h0, decide_eq_false h1]; simp
  rw [this]
  exact named7_loop s w (by omega) (by omega) h2' h3'

def varB (s : ByteArray) : Bool := match s[0]? with
  | some c => decide (2 ≤ (s.size : Int)) && ((c.toNat : Int) == 63) && nam6 s
  | none => false
theorem varB_of (s : ByteArray) (h : 0 < s.size) : varB s = (decide (2 ≤ (s.size : Int)) && ((s[0].toNat : Int) == 63) && nam6 s) := by
  simp only [varB, getElem?_pos s 0 h]
theorem varB_short (s : ByteArray) (h : ¬ 2 ≤ (s.size : Int)) : varB s = false := by
  unfold varB; split
  · rw [decide_eq_false h]; rfl
  · rfl

set_option maxHeartbeats 400000 in
theorem variable4 (s : ByteArray) (w : World) (hs : s.size ≤ 9223372036854775807) :
    Calls Try.prog 4 #[.string s] w fun e w' => e = .returned (.bool (varB s)) ∧ Grown w w' := by
  by_cases h2 : 2 ≤ (s.size : Int)
  · have h0 : 0 < s.size := by omega
    by_cases h3 : ((s[0].toNat : Int) == 63) = true
    · have HV := Lib.hid (show varB s = nam6 s by rw [varB_of s h0, decide_eq_true h2, h3]; simp)
      generalize hx : varB s = x at *
      generalize hn : nam6 s = n at *
      go_enter Try.func4, Try.ntmps4
      go_wp2_with (go_at_call 6; refine (named6 s _ hs).mono ?_; rintro e w' ⟨rfl, hb⟩; rw [hn])
      go_ret
      exact ⟨ret_bool HV.out.symm, hb⟩
    · have h3' : ((s[0].toNat : Int) == 63) = false := by simpa using h3
      have HV := Lib.hid (show varB s = false by rw [varB_of s h0, h3']; simp)
      generalize hx : varB s = x at *
      go_enter Try.func4, Try.ntmps4
      go_wp2_with fail
      go_ret
      exact ⟨ret_bool HV.out.symm, Grown.refl _⟩
  · have HV := Lib.hid (varB_short s h2)
    have h2' : (s.size : Int) < 2 := by omega
    generalize hx : varB s = x at *
    go_enter Try.func4, Try.ntmps4
    go_wp2_with fail
    go_ret
    exact ⟨ret_bool HV.out.symm, Grown.refl _⟩

theorem nam6_pos (s : ByteArray) (h : nam6 s = true) : 0 < s.size := by
  by_cases h0 : (s.size : Int) < 1
  · unfold nam6 at h; rw [decide_eq_true h0] at h; simp at h
  · omega

set_option maxHeartbeats 400000 in
theorem variable5 (s : ByteArray) (w : World) (hs : s.size ≤ 9223372036854775807) :
    Calls Try.prog 5 #[.string s] w fun e w' => e = .returned (.bool (varB s)) ∧ w = w' := by
  by_cases hn : nam6 s = true
  · have h0 := nam6_pos s hn
    by_cases h2 : (1 : Int) < (s.size : Int)
    · have HV := Lib.hid (show varB s = ((s[0].toNat : Int) == 63) by rw [varB_of s h0, decide_eq_true (by omega), hn]; simp)
      generalize hx : varB s = x at *
      go_enter Try.func5, Try.ntmps5
      go_wp2_with (go_at_call 7; refine (named7 s _ hs).mono ?_; rintro e w' ⟨rfl, rfl⟩; rw [hn])
      all_goals
        go_ret
        refine ⟨ret_bool ?_, rfl⟩
        rw [HV.out]
    · have HV := Lib.hid (varB_short s (by omega))
      have h2' : (s.size : Int) ≤ 1 := by omega
      generalize hx : varB s = x at *
      go_enter Try.func5, Try.ntmps5
      go_wp2_with (go_at_call 7; refine (named7 s _ hs).mono ?_; rintro e w' ⟨rfl, rfl⟩; rw [hn])
      go_ret
      exact ⟨ret_bool HV.out.symm, rfl⟩
  · have hn' : nam6 s = false := by simpa using hn
    have HV := Lib.hid (show varB s = false by unfold varB; split <;> simp [hn'])
    generalize hx : varB s = x at *
    go_enter Try.func5, Try.ntmps5
    go_wp2_with (go_at_call 7; refine (named7 s _ hs).mono ?_; rintro e w' ⟨rfl, rfl⟩; rw [hn'])
    go_ret
    exact ⟨ret_bool HV.out.symm, rfl⟩

set_option maxHeartbeats 400000 in
theorem law3 (s : ByteArray) (w : World) (hs : s.size ≤ 9223372036854775807) :
    Calls Try.prog 3 #[.string s] w fun e w' => e = .returned (.bool true) ∧ Grown w w' := by
  by_cases h : (1000 : Int) < s.size
  · go_enter Try.func3, Try.ntmps3
    go_wp2_with fail
    go_ret
    exact ⟨rfl, Grown.refl _⟩
  · have h' : (s.size : Int) ≤ 1000 := by omega
    go_enter Try.func3, Try.ntmps3
    go_wp2_with fail
    refine (variable4 s _ hs).mono ?_
    rintro e w1 ⟨rfl, hb⟩
    go_wp2_with fail
    refine (variable5 s _ hs).mono ?_
    rintro e w2 ⟨rfl, rfl⟩
    go_wp2_with fail
    go_ret
    exact ⟨ret_bool (by simp), hb⟩
end Go.Proofs.Ytanemlbfkihbkaa
