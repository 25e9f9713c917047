import Derived.Test.YtanemlbfkihbkaaRows
import Derived.WalkKit
import Derived.WalkSpells
import Derived.WalkLawsBesides
import Derived.Lib.Bytealg
import Derived.Lib.Hide
import Derived.ProofKit
namespace Go.Proofs.Ytanemlbfkihbkaa
open Go.RowKit

theorem ret_bool {a b : Bool} (h : a = b) : Ending.returned (.bool a) = .returned (.bool b) := by rw [h]

/-- is a byte in a list -/
def inB (l : List UInt8) (c : Int) : Bool := l.any fun b => (b.toNat : Int) == c

set_option maxHeartbeats 400000 in
theorem indexByte11 (s : ByteArray) (c : Int) (w : World) :
    Calls Try.prog 11 #[.string s, .int .u8 c] w fun e w' => e = .returned (.int .i64 (Lib.indexByte s.data.toList c.toNat.toUInt8)) ∧ w = w' := by
  go_enter Try.func11, Try.ntmps11
  go_wp2
  rw [run_callFunc_extern Try.func12 (by kernel_rfl) (by kernel_rfl) (by kernel_rfl) (e := Extern.BytealgIndexByte.indexByte) (by kernel_rfl), Lib.run_indexByteString]
  simp only [Result.andThen]
  rw [Oper.upon_value]
  go_wp2
  go_ret
  exact ⟨rfl, rfl⟩

set_option maxHeartbeats 400000 in
theorem indexByte9 (s : ByteArray) (c : Int) (w : World) :
    Calls Try.prog 9 #[.string s, .int .u8 c] w fun e w' => e = .returned (.int .i64 (Lib.indexByte s.data.toList c.toNat.toUInt8)) ∧ w = w' := by
  go_enter Try.func9, Try.ntmps9
  go_wp2_with (go_at_call 11; refine (indexByte11 _ _ _).mono ?_; rintro e w' ⟨rfl, rfl⟩)
  go_ret
  exact ⟨rfl, rfl⟩

def digB (s : ByteArray) (k : Nat) : Bool := match s[k]? with | some c => decide (48 ≤ (c.toNat : Int)) && decide ((c.toNat : Int) ≤ 57) | none => false

theorem digB_no (s : ByteArray) (k : Nat) (hk : k < s.size) (h : ¬ 48 ≤ (s[k].toNat : Int)) : digB s k = false := by
  have h3 : decide (48 ≤ (s[k].toNat : Int)) = false := by simpa using h
  simp only [digB, getElem?_pos s k hk, h3]; rfl

set_option maxHeartbeats 400000 in
theorem digit_any (s : ByteArray) (k : Nat) (a : Addr) (w : World) (_hs : s.size ≤ 9223372036854775807) (hc : w.cell? a = some (.string s)) :
    Calls Try.prog 8 #[.int .i64 k, .pointer (some a)] w fun e w' => e = .returned (.bool (digB s k)) ∧ w = w' := by
  by_cases hk : k < s.size
  · by_cases h1 : 48 ≤ (s[k].toNat : Int)
    · go_enter Try.func8, Try.ntmps8
      go_wp2
      go_ret
      exact ⟨by simp [digB, hk, h1], rfl⟩
    · have h1' : (s[k].toNat : Int) < 48 := by omega
      go_enter Try.func8, Try.ntmps8
      go_wp2
      go_ret
      exact ⟨ret_bool (digB_no s k hk (by omega)).symm, rfl⟩
  · have hk' : s.size ≤ k := by omega
    go_enter Try.func8, Try.ntmps8
    go_wp2
    go_ret
    exact ⟨by simp [digB, hk], rfl⟩

theorem inB_yes (s : ByteArray) (k : Nat) (hk : k < s.size) (c : Int) (h : ((s[k].toNat : Int) == c) = true) : inB s.data.toList c = true := by
  rw [inB, List.any_eq_true]; exact ⟨s[k], by simp [ByteArray.getElem_eq_getElem_data], h⟩

set_option maxHeartbeats 400000 in
theorem in10 (s : ByteArray) (c : Int) (w : World) (hs : s.size ≤ 9223372036854775807) :
    Calls Try.prog 10 #[.string s, .int .u8 c] w fun e w' => e = .returned (.bool (inB s.data.toList c)) ∧ w = w' := by
  go_enter Try.func10, Try.ntmps10
  go_wp2
  go_loop [5] (fun i => ∃ k : Nat, k ≤ s.size ∧ i = .int .i64 k ∧ inB (s.data.toList.take k) c = false) (fun i => s.size - (intOf i).toNat)
  case atStart => exact ⟨0, Nat.zero_le _, rfl, rfl⟩
  case round =>
    obtain ⟨k, hk, rfl, hno⟩ := hrel
    have HN := Lib.hid hno; clear hno
    by_cases hlt : k < s.size
    · have hts : s.data.toList.take (k + 1) = s.data.toList.take k ++ [s[k]] := by
        rw [List.take_succ_eq_append_getElem (by simpa using hlt)]; rfl
      have HT := Lib.hid hts; clear hts
      by_cases he : ((s[k].toNat : Int) == c) = true
      · go_wp2
        go_ret
        exact ⟨ret_bool (inB_yes s k hlt c he).symm, rfl⟩
      · have he' : ((s[k].toNat : Int) == c) = false := by simpa using he
        go_wp2
        go_round
        case rel => exact ⟨k + 1, by omega, by go_num, by rw [HT.out, inB, List.any_append, show ((s.data.toList.take k).any fun b => (b.toNat : Int) == c) = false from HN.out]; simp [he']⟩
        case measure => simp [intOf]; omega
    · go_wp2
      go_ret
      have := HN.out
      rw [List.take_of_length_le (by simp; omega)] at this
      exact ⟨ret_bool this.symm, rfl⟩

theorem digit_int (s : ByteArray) (i : Int) (k : Nat) (hi : i = k) (a : Addr) (w : World) (hs : s.size ≤ 9223372036854775807) (hc : w.cell? a = some (.string s)) :
    Calls Try.prog 8 #[.int .i64 i, .pointer (some a)] w fun e w' => e = .returned (.bool (digB s k)) ∧ w = w' := by
  subst hi; exact digit_any s k a w hs hc

/-- a byte that may stand in a name -/
def okc (c : UInt8) : Bool := (decide (97 ≤ (c.toNat : Int)) && decide ((c.toNat : Int) ≤ 122)) || ((decide (48 ≤ (c.toNat : Int)) && decide ((c.toNat : Int) ≤ 57)) || !decide (Lib.indexByte [63, 95, 43, 45, 42, 47, 60, 62, 61, 33, 46, 37, 38] c < 0))



/-- what text.Named answers -/
def tail6 (s : ByteArray) : Bool := match s[0]? with
  | some c => !digB s 0 && (decide (Lib.indexByte [43, 45, 33] c < 0) || !digB s 1)
  | none => false
def nam6 (s : ByteArray) : Bool := (!decide ((s.size : Int) < 1) && !decide ((64 : Int) < s.size) && !(s.toList == [116, 114, 117, 101]) && !(s.toList == [102, 97, 108, 115, 101])) && (s.data.toList.all okc && tail6 s)

theorem take_snoc (s : ByteArray) (k : Nat) (h : k < s.size) : s.data.toList.take (k + 1) = s.data.toList.take k ++ [s[k]] := by
  rw [List.take_succ_eq_append_getElem (by simpa using h)]; rfl
theorem all_snoc (f : UInt8 → Bool) (s : ByteArray) (k : Nat) (h : k < s.size) (a : (s.data.toList.take k).all f = true) (b : f s[k] = true) : (s.data.toList.take (k + 1)).all f = true := by
  rw [take_snoc s k h, List.all_append, a]; simp [b]
theorem all_no (f : UInt8 → Bool) (s : ByteArray) (k : Nat) (h : k < s.size) (b : f s[k] = false) : s.data.toList.all f = false := by
  rw [List.all_eq_false]; exact ⟨s[k], by simp [ByteArray.getElem_eq_getElem_data], by simp [b]⟩
theorem dig_iff (s : ByteArray) (k : Nat) (h : k < s.size) : digB s k = (decide (48 ≤ (s[k].toNat : Int)) && decide ((s[k].toNat : Int) ≤ 57)) := by
  simp only [digB, getElem?_pos s k h]
theorem okc_letter (c : UInt8) (h1 : 97 ≤ (c.toNat : Int)) (h2 : (c.toNat : Int) ≤ 122) : okc c = true := by
  unfold okc; simp only [decide_eq_true h1, decide_eq_true h2]; rfl
theorem okc_dig (s : ByteArray) (k : Nat) (h : k < s.size) (d : digB s k = true) : okc s[k] = true := by
  rw [dig_iff s k h] at d; unfold okc; rw [d]; simp
theorem okc_sign (c : UInt8) (d : 0 ≤ Lib.indexByte [63, 95, 43, 45, 42, 47, 60, 62, 61, 33, 46, 37, 38] c) : okc c = true := by
  unfold okc; rw [decide_eq_false (p := Lib.indexByte _ c < 0) (by omega)]; simp
theorem okc_no (s : ByteArray) (k : Nat) (h : k < s.size) (l : (s[k].toNat : Int) < 97 ∨ 122 < (s[k].toNat : Int)) (d : digB s k = false)
    (e : Lib.indexByte [63, 95, 43, 45, 42, 47, 60, 62, 61, 33, 46, 37, 38] s[k] < 0) : okc s[k] = false := by
  rw [dig_iff s k h] at d; unfold okc; rw [d, decide_eq_true e]; simp; omega
theorem tail6_of (s : ByteArray) (h : 0 < s.size) : tail6 s = (!digB s 0 && (decide (Lib.indexByte [43, 45, 33] s[0] < 0) || !digB s 1)) := by
  simp only [tail6, getElem?_pos s 0 h]

set_option maxHeartbeats 1000000 in
theorem named6_loop (s : ByteArray) (w : World) (h0 : 0 < s.size) (h1 : s.size ≤ 64) (h2 : (s.toList == [116, 114, 117, 101]) = false) (h3 : (s.toList == [102, 97, 108, 115, 101]) = false) :
    Calls Try.prog 6 #[.string s] w fun e w' => e = .returned (.bool (s.data.toList.all okc && tail6 s)) ∧ Grown w w' := by
  have h0' : decide ((s.size : Int) < 1) = false := by simp; omega
  have h1' : decide ((64 : Int) < s.size) = false := by simp; omega
  have hs : s.size ≤ 9223372036854775807 := by omega
  generalize hR : (s.data.toList.all okc && tail6 s) = R
  have HR := Lib.hid hR; clear hR
  go_enter Try.func6, Try.ntmps6
  go_wp2_with fail
  go_loop [24] (fun i => ∃ k : Nat, k ≤ s.size ∧ i = .int .i64 k ∧ (s.data.toList.take k).all okc = true) (fun i => s.size - (intOf i).toNat)
  case atStart => exact ⟨0, Nat.zero_le _, rfl, rfl⟩
  case round =>
    obtain ⟨k, hk, rfl, hno⟩ := hrel
    have HN := Lib.hid hno; clear hno
    by_cases hlt : k < s.size
    · go_wp2_with (first | (go_at_call 8; refine (digit_any s k _ _ hs (by simp)).mono ?_; rintro e w' ⟨rfl, rfl⟩) | (go_at_call 9; refine (indexByte9 _ _ _).mono ?_; rintro e w' ⟨rfl, rfl⟩))
      all_goals first
        | (go_ret
           have hd : digB s k = false := by first | assumption | simpa using ‹¬ digB s k = true›
           have := all_no okc s k hlt (okc_no s k hlt (by omega) hd (by assumption))
           exact ⟨ret_bool (by rw [← HR.out, this]; rfl), (Grown.refl _).alloc _ _⟩)
        | (have hok : okc s[k] = true := by
             first | exact okc_letter _ (by omega) (by omega) | exact okc_dig s k hlt (by assumption) | exact okc_sign _ (by omega)
           go_round
           case rel => exact ⟨k + 1, by omega, by go_num, all_snoc okc s k hlt HN.out hok⟩
           case measure => simp [intOf]; omega)
        | (go_ret
           have hd : digB s k = false := by simpa using ‹¬ digB s k = true›
           have := all_no okc s k hlt (okc_no s k hlt (by omega) hd (by omega))
           exact ⟨ret_bool (by rw [← HR.out, this]; rfl), (Grown.refl _).alloc _ _⟩)
    · have hall : s.data.toList.all okc = true := by
        have := HN.out; rwa [List.take_of_length_le (by simp; omega)] at this
      have ht := tail6_of s h0
      have HR2 : Hid (R = (!digB s 0 && (decide (Lib.indexByte [43, 45, 33] s[0] < 0) || !digB s 1))) := by
        have := HR.out; rw [hall, ht] at this; exact this.symm
      clear hall ht
      go_wp2_with (first | (go_at_call 8; first | ((with_reducible refine (digit_int s 0 0 rfl _ _ hs (by simp)).mono ?_); rintro e w' ⟨rfl, rfl⟩) | ((with_reducible refine (digit_int s 1 1 rfl _ _ hs (by simp)).mono ?_); rintro e w' ⟨rfl, rfl⟩)) | (go_at_call 9; refine (indexByte9 _ _ _).mono ?_; rintro e w' ⟨rfl, rfl⟩))
      all_goals go_ret
      all_goals exact ⟨ret_bool (by rw [HR2.out]; simp [*]), (Grown.refl _).alloc _ _⟩
end Go.Proofs.Ytanemlbfkihbkaa
