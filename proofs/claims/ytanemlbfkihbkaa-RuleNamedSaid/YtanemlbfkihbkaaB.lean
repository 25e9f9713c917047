import Derived.Test.YtanemlbfkihbkaaA
namespace Go.Proofs.Ytanemlbfkihbkaa
open Go.RowKit

set_option maxHeartbeats 400000 in
theorem named6_no (s : ByteArray) (w : World) (hb : (s.size : Int) < 1 ∨ (1 ≤ (s.size : Int) ∧ 64 < (s.size : Int)) ∨ (1 ≤ (s.size : Int) ∧ (s.size : Int) ≤ 64 ∧ (s.toList == [116, 114, 117, 101]) = true) ∨ (1 ≤ (s.size : Int) ∧ (s.size : Int) ≤ 64 ∧ (s.toList == [116, 114, 117, 101]) = false ∧ (s.toList == [102, 97, 108, 115, 101]) = true)) (_hs : s.size ≤ 9223372036854775807) :
    Calls Try.prog 6 #[.string s] w fun e w' => e = .returned (.bool false) ∧ Grown w w' := by
  rcases hb with h | ⟨h1, h2⟩ | ⟨h1, h2, h3⟩ | ⟨h1, h2, h3, h4⟩
  all_goals
    go_enter Try.func6, Try.ntmps6
    go_wp2_with fail
    go_ret
    exact ⟨rfl, (Grown.refl _).alloc _ _⟩

theorem named6 (s : ByteArray) (w : World) (hs : s.size ≤ 9223372036854775807) :
    Calls Try.prog 6 #[.string s] w fun e w' => e = .returned (.bool (nam6 s)) ∧ Grown w w' := by
  by_cases h0 : (s.size : Int) < 1
  · have : nam6 s = false := by unfold nam6; rw [decide_eq_true h0]; rfl
    rw [this]; exact named6_no s w (.inl h0) hs
  by_cases h1 : (64 : Int) < s.size
  · have : nam6 s = false := by unfold nam6; rw [decide_eq_true h1]; simp
    rw [this]; exact named6_no s w (.inr (.inl ⟨by omega, h1⟩)) hs
  by_cases h2 : (s.toList == [116, 114, 117, 101]) = true
  · have : nam6 s = false := by unfold nam6; rw [h2]; simp
    rw [this]; exact named6_no s w (.inr (.inr (.inl ⟨by omega, by omega, h2⟩))) hs
  by_cases h3 : (s.toList == [102, 97, 108, 115, 101]) = true
  · have : nam6 s = false := by unfold nam6; rw [h3]; simp
    rw [this]; exact named6_no s w (.inr (.inr (.inr ⟨by omega, by omega, by simpa using h2, h3⟩))) hs
  have h2' : (s.toList == [116, 114, 117, 101]) = false := by simpa using h2
  have h3' : (s.toList == [102, 97, 108, 115, 101]) = false := by simpa using h3
  have : nam6 s = (s.data.toList.all okc && tail6 s) := by
    unfold nam6; rw [h2', h3', decide_eq_false h0, decide_eq_false h1]; simp
  rw [this]
  exact named6_loop s w (by omega) (by omega) h2' h3'

theorem index_lt (l : List UInt8) (c : UInt8) : Lib.indexByte l c < 0 ↔ inB l c.toNat = false := by
  induction l with
  | nil => simp [Lib.indexByte, inB]
  | cons b l ih =>
    have hg := Lib.indexByte_ge l c
    have e1 : Lib.indexByte (b :: l) c = if b == c then 0 else if Lib.indexByte l c == -1 then -1 else Lib.indexByte l c + 1 := rfl
    have e2 : inB (b :: l) c.toNat = (((b.toNat : Int) == (c.toNat : Int)) || inB l c.toNat) := rfl
    rw [e1, e2]
    by_cases h : b = c
    · subst h; simp
    · have hn : ¬ (b.toNat : Int) = (c.toNat : Int) := fun e => h (UInt8.toNat_inj.1 (by omega))
      have h' : (b == c) = false := by simpa using h
      have hn' : ((b.toNat : Int) == (c.toNat : Int)) = false := by simpa using hn
      rw [h', hn', Bool.false_or, ← ih]
      by_cases e : Lib.indexByte l c = -1
      · simp [e]
      · simp [e]; omega
theorem index_in (l : List UInt8) (c : UInt8) : decide (Lib.indexByte l c < 0) = !inB l c.toNat := by
  have := index_lt l c
  by_cases h : Lib.indexByte l c < 0
  · rw [decide_eq_true h, this.1 h]; rfl
  · rw [decide_eq_false h]
    cases e : inB l c.toNat
    · exact absurd (this.2 e) h
    · rfl

theorem okc_in (c : UInt8) : okc c = ((decide (97 ≤ (c.toNat : Int)) && decide ((c.toNat : Int) ≤ 122)) || ((decide (48 ≤ (c.toNat : Int)) && decide ((c.toNat : Int) ≤ 57)) || inB [63, 95, 43, 45, 42, 47, 60, 62, 61, 33, 46, 37, 38] c.toNat)) := by
  unfold okc; rw [index_in]; simp

/-- the first byte is one behind which no digit stands -/
def leadB (s : ByteArray) : Bool := match s[0]? with | some c => ((c.toNat : Int) == 43) || ((c.toNat : Int) == 45) || ((c.toNat : Int) == 33) | none => false
theorem tail6_in (s : ByteArray) (h : 0 < s.size) : tail6 s = (!digB s 0 && (!leadB s || !digB s 1)) := by
  rw [tail6_of s h, index_in]
  have : inB [43, 45, 33] (s[0].toNat : Int) = leadB s := by
    simp only [leadB, getElem?_pos s 0 h, inB]
    rw [Bool.eq_iff_iff]; simp; omega
  rw [this]

theorem lead_of (s : ByteArray) (h : 0 < s.size) : leadB s = (((s[0].toNat : Int) == 43) || ((s[0].toNat : Int) == 45) || ((s[0].toNat : Int) == 33)) := by
  simp only [leadB, getElem?_pos s 0 h]

theorem R_ok {s : ByteArray} {k : Nat} (h : k < s.size) (b : okc s[k] = false) : (s.data.toList.all okc && tail6 s) = false := by
  rw [all_no okc s k h b]; rfl
theorem R_d0 {s : ByteArray} (h : 0 < s.size) (l1 : (48 : Int) ≤ (s[0].toNat : Int)) (l2 : (s[0].toNat : Int) ≤ 57) : (s.data.toList.all okc && tail6 s) = false := by
  rw [tail6_in s h, dig_iff s 0 h, decide_eq_true l1, decide_eq_true l2]; simp
theorem R_d1 {s : ByteArray} (h : 1 < s.size) (l1 : (48 : Int) ≤ (s[1].toNat : Int)) (l2 : (s[1].toNat : Int) ≤ 57) (l : leadB s = true) : (s.data.toList.all okc && tail6 s) = false := by
  rw [tail6_in s (by omega), dig_iff s 1 h, decide_eq_true l1, decide_eq_true l2, l]; simp
theorem dig_no (s : ByteArray) (k : Nat) (h : k < s.size) (l : ¬ ((48 : Int) ≤ (s[k].toNat : Int) ∧ (s[k].toNat : Int) ≤ 57)) : digB s k = false := by
  rw [dig_iff s k h]; simp; omega
theorem okc_yes (c : UInt8) (h : (97 ≤ (c.toNat : Int) ∧ (c.toNat : Int) ≤ 122) ∨ (48 ≤ (c.toNat : Int) ∧ (c.toNat : Int) ≤ 57) ∨ inB [63, 95, 43, 45, 42, 47, 60, 62, 61, 33, 46, 37, 38] c.toNat = true) : okc c = true := by
  rw [okc_in]; simp; simpa using h
theorem okc_not (c : UInt8) (h : ¬ (97 ≤ (c.toNat : Int) ∧ (c.toNat : Int) ≤ 122)) (h2 : ¬ (48 ≤ (c.toNat : Int) ∧ (c.toNat : Int) ≤ 57)) (h3 : inB [63, 95, 43, 45, 42, 47, 60, 62, 61, 33, 46, 37, 38] c.toNat = false) : okc c = false := by
  rw [okc_in, h3]; simp; omega

/-- what holds of the bytes ahead of k -/
def Sofar (s : ByteArray) (k : Nat) : Prop := (s.data.toList.take k).all okc = true ∧ (0 < k → digB s 0 = false) ∧ (1 < k → leadB s = true → digB s 1 = false)
theorem sofar_next (s : ByteArray) (k : Nat) (h : k < s.size) (a : Sofar s k) (b : okc s[k] = true) (c : k = 0 → digB s 0 = false) (d : k = 1 → leadB s = true → digB s 1 = false) : Sofar s (k + 1) :=
  ⟨all_snoc okc s k h a.1 b, fun _ => by by_cases e : k = 0; exact c e; exact a.2.1 (by omega), fun _ l => by by_cases e : k = 1; exact d e l; exact a.2.2 (by omega) l⟩
theorem sofar_all (s : ByteArray) (h0 : 0 < s.size) (k : Nat) (h : ¬ k < s.size) (a : Sofar s k) : (s.data.toList.all okc && tail6 s) = true := by
  obtain ⟨a1, a2, a3⟩ := a
  rw [List.take_of_length_le (by simp; omega)] at a1
  rw [a1, tail6_in s h0, a2 (by omega)]
  by_cases hl : leadB s = true
  · by_cases h1k : 1 < k
    · rw [a3 h1k hl]; simp
    · have : digB s 1 = false := by unfold digB; rw [getElem?_neg s 1 (by omega)]
      rw [this]; simp
  · simp [hl]

set_option maxHeartbeats 4000000 in
theorem named7_loop (s : ByteArray) (w : World) (h0 : 0 < s.size) (h1 : s.size ≤ 64) (h2 : (s.toList == [116, 114, 117, 101]) = false) (h3 : (s.toList == [102, 97, 108, 115, 101]) = false) :
    Calls Try.prog 7 #[.string s] w fun e w' => e = .returned (.bool (s.data.toList.all okc && tail6 s)) ∧ w = w' := by
  have h0' : ((s.size : Int) == 0) = false := beq_eq_false_iff_ne.2 (by omega)
  have h1' : decide ((64 : Int) < s.size) = false := by simp; omega
  have hs : s.size ≤ 9223372036854775807 := by omega
  generalize hR : (s.data.toList.all okc && tail6 s) = R
  have HR := Lib.hid hR; clear hR
  go_enter Try.func7, Try.ntmps7
  go_wp2_with fail
  go_loop [3] (fun i => ∃ k : Nat, k ≤ s.size ∧ i = .int .i64 k ∧ Hid (Sofar s k)) (fun i => s.size - (intOf i).toNat)
  case atStart => exact ⟨0, Nat.zero_le _, rfl, ⟨rfl, by omega, by omega⟩⟩
  case round =>
    obtain ⟨k, hk, rfl, HS⟩ := hrel
    by_cases hlt : k < s.size
    · by_cases hlet : (97 : Int) ≤ (s[k].toNat : Int) ∧ (s[k].toNat : Int) ≤ 122
      · have HO : Hid (okc s[k] = true) := okc_yes _ (.inl hlet)
        have HD : Hid (digB s k = false) := dig_no s k hlt (by omega)
        obtain ⟨l1, l2⟩ := hlet
        have l3 : decide ((s[k].toNat : Int) ≤ 57) = false := by simp; omega
        go_wp2_with (go_at_call 10; refine (in10 _ _ _ (by decide)).mono ?_; rintro e w' ⟨rfl, rfl⟩)
        all_goals
          go_round
          case rel => exact ⟨k + 1, by omega, by go_num, sofar_next s k hlt HS HO (fun e => by subst e; exact HD) (fun e _ => by subst e; exact HD)⟩
          case measure => simp [intOf]; omega
      · by_cases hdig : (48 : Int) ≤ (s[k].toNat : Int) ∧ (s[k].toNat : Int) ≤ 57
        · have HO : Hid (okc s[k] = true) := okc_yes _ (.inr (.inl hdig))
          obtain ⟨l1, l2⟩ := hdig
          have l3 : (s[k].toNat : Int) < 97 := by omega
          clear hlet
          by_cases hk0 : k = 0
          · subst hk0
            have HR0 : Hid (R = false) := by rw [← HR.out]; exact R_d0 h0 l1 l2
            go_wp2_with (go_at_call 10; refine (in10 _ _ _ (by decide)).mono ?_; rintro e w' ⟨rfl, rfl⟩)
            all_goals
              go_ret
              exact ⟨ret_bool HR0.out.symm, rfl⟩
          · have e0 : ((k : Int) == 0) = false := beq_eq_false_iff_ne.2 (by omega)
            by_cases hk1 : k = 1
            · subst hk1
              clear e0
              by_cases hl : leadB s = true
              · have HR0 : Hid (R = false) := by rw [← HR.out]; exact R_d1 hlt l1 l2 hl
                rw [lead_of s h0] at hl
                by_cases g1 : ((s[0].toNat : Int) == 43) = true
                · clear hl
                  go_wp2_with (go_at_call 10; refine (in10 _ _ _ (by decide)).mono ?_; rintro e w' ⟨rfl, rfl⟩)
                  all_goals
                    go_ret
                    exact ⟨ret_bool HR0.out.symm, rfl⟩
                · have g1' : ((s[0].toNat : Int) == 43) = false := by simpa using g1
                  clear g1
                  by_cases g2 : ((s[0].toNat : Int) == 45) = true
                  · clear hl
                    go_wp2_with (go_at_call 10; refine (in10 _ _ _ (by decide)).mono ?_; rintro e w' ⟨rfl, rfl⟩)
                    all_goals
                      go_ret
                      exact ⟨ret_bool HR0.out.symm, rfl⟩
                  · have g2' : ((s[0].toNat : Int) == 45) = false := by simpa using g2
                    have g3' : ((s[0].toNat : Int) == 33) = true := by rw [g1', g2'] at hl; simpa using hl
                    clear hl g2
                    go_wp2_with (go_at_call 10; refine (in10 _ _ _ (by decide)).mono ?_; rintro e w' ⟨rfl, rfl⟩)
                    all_goals
                      go_ret
                      exact ⟨ret_bool HR0.out.symm, rfl⟩
              · have hl0 : leadB s = false := by simpa using hl
                have HL : Hid (leadB s = false) := hl0
                clear hl0
                have hl2 := HL.out
                rw [lead_of s h0, Bool.or_eq_false_iff, Bool.or_eq_false_iff] at hl2
                obtain ⟨⟨g1, g2⟩, g3⟩ := hl2
                clear hl
                go_wp2_with (go_at_call 10; refine (in10 _ _ _ (by decide)).mono ?_; rintro e w' ⟨rfl, rfl⟩)
                all_goals
                  go_round
                  case rel => exact ⟨2, by omega, rfl, sofar_next s 1 hlt HS HO (fun e => by omega) (fun _ e => by rw [HL.out] at e; cases e)⟩
                  case measure => simp [intOf]; omega
            · have e1 : ((k : Int) == 1) = false := beq_eq_false_iff_ne.2 (by omega)
              go_wp2_with (go_at_call 10; refine (in10 _ _ _ (by decide)).mono ?_; rintro e w' ⟨rfl, rfl⟩)
              all_goals
                go_round
                case rel => exact ⟨k + 1, by omega, by go_num, sofar_next s k hlt HS HO (fun e => absurd e hk0) (fun e _ => absurd e hk1)⟩
                case measure => simp [intOf]; omega
        · have HD : Hid (digB s k = false) := dig_no s k hlt hdig
          by_cases hin : inB [63, 95, 43, 45, 42, 47, 60, 62, 61, 33, 46, 37, 38] (s[k].toNat : Int) = true
          · have HO : Hid (okc s[k] = true) := okc_yes _ (.inr (.inr hin))
            by_cases c1 : (s[k].toNat : Int) < 48
            · have d1 : decide ((48 : Int) ≤ (s[k].toNat : Int)) = false := by simp; omega
              have d2 : decide ((97 : Int) ≤ (s[k].toNat : Int)) = false := by simp; omega
              clear hlet hdig
              go_wp2_with (go_at_call 10; refine (in10 _ _ _ (by decide)).mono ?_; rintro e w' ⟨rfl, rfl⟩)
              all_goals
                go_round
                case rel => exact ⟨k + 1, by omega, by go_num, sofar_next s k hlt HS HO (fun e => by subst e; exact HD) (fun e _ => by subst e; exact HD)⟩
                case measure => simp [intOf]; omega
            · have d1 : (48 : Int) ≤ (s[k].toNat : Int) := by omega
              have d3 : decide ((s[k].toNat : Int) ≤ 57) = false := by simp; omega
              have d4 : 57 < (s[k].toNat : Int) := by omega
              by_cases c2 : (s[k].toNat : Int) < 97
              · have d2 : decide ((97 : Int) ≤ (s[k].toNat : Int)) = false := by simp; omega
                clear hlet hdig c1
                go_wp2_with (go_at_call 10; refine (in10 _ _ _ (by decide)).mono ?_; rintro e w' ⟨rfl, rfl⟩)
                all_goals
                  go_round
                  case rel => exact ⟨k + 1, by omega, by go_num, sofar_next s k hlt HS HO (fun e => by subst e; exact HD) (fun e _ => by subst e; exact HD)⟩
                  case measure => simp [intOf]; omega
              · have d2 : (97 : Int) ≤ (s[k].toNat : Int) := by omega
                have d5 : decide ((s[k].toNat : Int) ≤ 122) = false := by simp; omega
                have d6 : 122 < (s[k].toNat : Int) := by omega
                clear hlet hdig c1 c2
                go_wp2_with (go_at_call 10; refine (in10 _ _ _ (by decide)).mono ?_; rintro e w' ⟨rfl, rfl⟩)
                all_goals
                  go_round
                  case rel => exact ⟨k + 1, by omega, by go_num, sofar_next s k hlt HS HO (fun e => by subst e; exact HD) (fun e _ => by subst e; exact HD)⟩
                  case measure => simp [intOf]; omega
          · have hin' : inB [63, 95, 43, 45, 42, 47, 60, 62, 61, 33, 46, 37, 38] (s[k].toNat : Int) = false := by simpa using hin
            have HR0 : Hid (R = false) := by rw [← HR.out]; exact R_ok hlt (okc_not _ hlet hdig hin')
            by_cases c1 : (s[k].toNat : Int) < 48
            · have d1 : decide ((48 : Int) ≤ (s[k].toNat : Int)) = false := by simp; omega
              have d2 : decide ((97 : Int) ≤ (s[k].toNat : Int)) = false := by simp; omega
              clear hlet hdig hin
              go_wp2_with (go_at_call 10; refine (in10 _ _ _ (by decide)).mono ?_; rintro e w' ⟨rfl, rfl⟩)
              all_goals
                go_ret
                exact ⟨ret_bool HR0.out.symm, rfl⟩
            · have d1 : (48 : Int) ≤ (s[k].toNat : Int) := by omega
              have d3 : decide ((s[k].toNat : Int) ≤ 57) = false := by simp; omega
              have d4 : 57 < (s[k].toNat : Int) := by omega
              by_cases c2 : (s[k].toNat : Int) < 97
              · have d2 : decide ((97 : Int) ≤ (s[k].toNat : Int)) = false := by simp; omega
                clear hlet hdig c1 hin
                go_wp2_with (go_at_call 10; refine (in10 _ _ _ (by decide)).mono ?_; rintro e w' ⟨rfl, rfl⟩)
                all_goals
                  go_ret
                  exact ⟨ret_bool HR0.out.symm, rfl⟩
              · have d2 : (97 : Int) ≤ (s[k].toNat : Int) := by omega
                have d5 : decide ((s[k].toNat : Int) ≤ 122) = false := by simp; omega
                have d6 : 122 < (s[k].toNat : Int) := by omega
                clear hlet hdig c1 c2 hin
                go_wp2_with (go_at_call 10; refine (in10 _ _ _ (by decide)).mono ?_; rintro e w' ⟨rfl, rfl⟩)
                all_goals
                  go_ret
                  exact ⟨ret_bool HR0.out.symm, rfl⟩
    · go_wp2_with fail
      go_ret
      exact ⟨ret_bool (by rw [← HR.out]; exact (sofar_all s h0 k hlt HS).symm), rfl⟩
end Go.Proofs.Ytanemlbfkihbkaa
