/- Parts of the proof in YtepngkjjcobajaaFin: FbV, FbW, FbZ, FbS, FbU, PxTt. -/
import Derived.Test.YtepngkjjcobajaaK4
import Derived.Deep.Slices
import Derived.ReadAgain
/- FbV -/
section
set_option linter.unusedVariables false
namespace Go.Px.Fb
/-! ## sets, by recursion -/
/-- a set, all of it above x -/
def CanF : Int → List Sp → Prop
  | _, [] => True
  | x, s :: l => x < s.a ∧ s.a < s.b ∧ CanF s.b l
def InR : List Sp → Int → Prop
  | [], _ => False
  | s :: l, t => (s.a ≤ t ∧ t < s.b) ∨ InR l t
theorem inP_R : ∀ {l : List Sp} {t : Int}, InP l t ↔ InR l t
  | [], t => ⟨fun ⟨j, h, _⟩ => by simp at h, fun h => h.elim⟩
  | s :: l, t => by
    have ih := inP_R (l := l) (t := t)
    constructor
    · rintro ⟨j, h1, h2⟩
      cases j with
      | zero => exact .inl (by simpa using h2)
      | succ j => exact .inr (ih.1 ⟨j, by simpa using h1, by simpa using h2⟩)
    · rintro (h | h)
      · exact ⟨0, by simp, by simpa using h⟩
      · obtain ⟨j, h1, h2⟩ := ih.2 h
        exact ⟨j + 1, by simpa using h1, by simpa using h2⟩
theorem okAt_succ {s : Sp} {l : List Sp} {i : Nat} : OkAt (s :: l) (i + 1) ↔ (l.getD i default).a < (l.getD i default).b ∧ ((s :: l).getD i default).b < (l.getD i default).a := by
  unfold OkAt
  simp only [Nat.add_sub_cancel, List.getD_cons_succ]
  constructor
  · rintro ⟨h1, h2⟩; exact ⟨h1, h2 (by omega)⟩
  · rintro ⟨h1, h2⟩; exact ⟨h1, fun _ => h2⟩
theorem setP_tail {s : Sp} {l : List Sp} (h : SetP (s :: l)) : SetP l := fun i hi => by
  have h1 := okAt_succ.1 (h (i + 1) (by simpa using hi))
  refine ⟨h1.1, fun q => ?_⟩
  obtain ⟨j, rfl⟩ : ∃ j, i = j + 1 := ⟨i - 1, by omega⟩
  simpa using h1.2
theorem setP_can : ∀ {l : List Sp} {s : Sp}, SetP (s :: l) → s.a < s.b ∧ CanF s.b l
  | [], s, h => ⟨by have := (h 0 (by simp)).1; simpa using this, trivial⟩
  | t :: l, s, h => by
    have h0 := (h 0 (by simp)).1
    have h1 := okAt_succ.1 (h 1 (by simp))
    have h2 := setP_can (setP_tail h)
    exact ⟨by simpa using h0, by simpa using h1.2, h2.1, h2.2⟩
theorem can_setP : ∀ {l : List Sp} {x : Int}, CanF x l → SetP l
  | [], x, _ => fun i hi => by simp at hi
  | s :: l, x, h => fun i hi => by
    have ih := can_setP h.2.2
    cases i with
    | zero => exact ⟨by simpa using h.2.1, fun q => absurd q (by omega)⟩
    | succ i =>
      refine okAt_succ.2 ?_
      have h1 := ih i (by simpa using hi)
      refine ⟨h1.1, ?_⟩
      cases i with
      | zero =>
        cases l with
        | nil => simp at hi
        | cons t l => simpa using h.2.2.1
      | succ i => simpa using h1.2 (by omega)
theorem setP_ex {l : List Sp} (h : SetP l) : ∃ x, CanF x l := by
  cases l with
  | nil => exact ⟨0, trivial⟩
  | cons s l => exact ⟨s.a - 1, by omega, setP_can h⟩
theorem can_low : ∀ {l : List Sp} {x t : Int}, CanF x l → InR l t → x < t
  | s :: l, x, t, h, .inl q => by have := h.1; omega
  | s :: l, x, t, h, .inr q => by
    have := can_low h.2.2 q
    have := h.1; have := h.2.1; omega
theorem can_mono {l : List Sp} {x y : Int} (h : CanF x l) (q : y ≤ x) : CanF y l := by
  cases l with
  | nil => trivial
  | cons s l => exact ⟨by have := h.1; omega, h.2⟩
/-- two sets with the same in them are the same -/
theorem can_ext : ∀ {l m : List Sp} {x y : Int}, CanF x l → CanF y m → (∀ t, InR l t ↔ InR m t) → l = m
  | [], [], _, _, _, _, _ => rfl
  | [], t :: m, x, y, _, h, q => ((q t.a).2 (.inl ⟨by omega, h.2.1⟩)).elim
  | s :: l, [], x, y, h, _, q => ((q s.a).1 (.inl ⟨by omega, h.2.1⟩)).elim
  | s :: l, t :: m, x, y, h, k, q => by
    have h1 := h.2.1; have k1 := k.2.1
    have ha : s.a = t.a := by
      have e1 : t.a ≤ s.a := by
        rcases (q s.a).1 (.inl ⟨by omega, h1⟩) with r | r
        · exact r.1
        · have := can_low k.2.2 r; omega
      have e2 : s.a ≤ t.a := by
        rcases (q t.a).2 (.inl ⟨by omega, k1⟩) with r | r
        · exact r.1
        · have := can_low h.2.2 r; omega
      omega
    have hb : s.b = t.b := by
      rcases Int.lt_trichotomy s.b t.b with r | r | r
      · rcases (q s.b).2 (.inl ⟨by omega, r⟩) with r' | r'
        · omega
        · have := can_low h.2.2 r'; omega
      · exact r
      · rcases (q t.b).1 (.inl ⟨by omega, r⟩) with r' | r'
        · omega
        · have := can_low k.2.2 r'; omega
    have hst : s = t := by cases s; cases t; simp only [] at ha hb; rw [ha, hb]
    have ht : l = m := can_ext h.2.2 k.2.2 fun u => by
      constructor
      · intro r
        have := can_low h.2.2 r
        rcases (q u).1 (.inr r) with r' | r'
        · omega
        · exact r'
      · intro r
        have := can_low k.2.2 r
        rcases (q u).2 (.inr r) with r' | r'
        · omega
        · exact r'
    rw [hst, ht]
/-! ## what two share -/
theorem meet_in (s t : Sp) (u : Int) : InR (if max s.a t.a < min s.b t.b then [⟨max s.a t.a, min s.b t.b⟩] else []) u ↔ (s.a ≤ u ∧ u < s.b) ∧ (t.a ≤ u ∧ u < t.b) := by
  split
  · simp only [InR, or_false]; omega
  · simp only [InR, false_iff]; omega
theorem inR_app : ∀ {l m : List Sp} {u : Int}, InR (l ++ m) u ↔ InR l u ∨ InR m u
  | [], m, u => by simp [InR]
  | s :: l, m, u => by
    have ih := inR_app (l := l) (m := m) (u := u)
    simp only [List.cons_append, InR, ih, or_assoc]
theorem meet_ok : ∀ (n : Nat) (a b : List Sp) (x y : Int), a.length + b.length ≤ n → CanF x a → CanF y b → CanF (max x y) (meetL a b) ∧ ∀ u, InR (meetL a b) u ↔ InR a u ∧ InR b u
  | n, [], b, x, y, _, _, _ => by
    rw [meetL_0 (.inl rfl)]
    exact ⟨trivial, fun u => ⟨fun h => h.elim, fun h => h.1⟩⟩
  | n, s :: a, [], x, y, _, _, _ => by
    rw [meetL_0 (.inr rfl)]
    exact ⟨trivial, fun u => ⟨fun h => h.elim, fun h => h.2⟩⟩
  | 0, s :: a, t :: b, x, y, hn, _, _ => by simp at hn
  | n + 1, s :: a, t :: b, x, y, hn, ha, hb => by
    have a1 := ha.1; have a2 := ha.2.1; have b1 := hb.1; have b2 := hb.2.1
    rw [meetL.eq_1 s a t b]
    simp only [List.length_cons] at hn
    by_cases h : s.b < t.b
    · rw [if_pos h]
      obtain ⟨c, i⟩ := meet_ok n a (t :: b) s.b y (by simp only [List.length_cons]; omega) ha.2.2 hb
      constructor
      · split
        · rename_i h2
          exact ⟨by show max x y < max s.a t.a; omega, h2, can_mono c (by show min s.b t.b ≤ _; omega)⟩
        · exact can_mono c (by omega)
      · intro u
        rw [inR_app, meet_in, i u]
        simp only [InR]
        constructor
        · rintro (⟨h1, h2⟩ | ⟨h1, h2⟩)
          · exact ⟨.inl h1, .inl h2⟩
          · exact ⟨.inr h1, h2⟩
        · rintro ⟨h1 | h1, h2⟩
          · rcases h2 with h2 | h2
            · exact .inl ⟨h1, h2⟩
            · have := can_low hb.2.2 h2; omega
          · exact .inr ⟨h1, h2⟩
    · rw [if_neg h]
      obtain ⟨c, i⟩ := meet_ok n (s :: a) b x t.b (by simp only [List.length_cons]; omega) ha hb.2.2
      constructor
      · split
        · rename_i h2
          exact ⟨by show max x y < max s.a t.a; omega, h2, can_mono c (by show min s.b t.b ≤ _; omega)⟩
        · exact can_mono c (by omega)
      · intro u
        rw [inR_app, meet_in, i u]
        simp only [InR]
        constructor
        · rintro (⟨h1, h2⟩ | ⟨h1, h2⟩)
          · exact ⟨.inl h1, .inl h2⟩
          · exact ⟨h1, .inr h2⟩
        · rintro ⟨h1, h2 | h2⟩
          · rcases h1 with h1 | h1
            · exact .inl ⟨h1, h2⟩
            · have := can_low ha.2.2 h1; omega
          · exact .inr ⟨h1, h2⟩
/-! ## what lies outside -/
def MX : Int := 9223372036854775807
def MN : Int := -9223372036854775808
/-- within what 64 bits hold -/
def Rng (l : List Sp) : Prop := ∀ s ∈ l, MN ≤ s.a ∧ s.b ≤ MX
def gapR (f : Int) : List Sp → List Sp
  | [] => if f < MX then [⟨f, MX⟩] else []
  | s :: l => (if f < s.a then [⟨f, s.a⟩] else []) ++ gapR s.b l
theorem gapSp_app (o : List Sp) (f t : Int) : gapSp o f t = o ++ if f < t then [⟨f, t⟩] else [] := by
  unfold gapSp
  split
  · rfl
  · simp
theorem gapN_R (l : List Sp) : ∀ i, i ≤ l.length → (gapN l i).1 ++ gapR (gapN l i).2 (l.drop i) = gapR MN l
  | 0, _ => rfl
  | i + 1, h => by
    rw [← gapN_R l i (by omega)]
    have e : l.drop i = (l.getD i default) :: l.drop (i + 1) := by
      rw [List.drop_eq_getElem_cons (by omega : i < l.length), List.getD_eq_getElem?_getD, List.getElem?_eq_getElem (by omega : i < l.length)]; rfl
    rw [e]
    conv => lhs; unfold gapN
    simp only [gapR, gapSp_app, List.append_assoc]
theorem restL_R (l : List Sp) : restL l = gapR MN l := by
  rw [← gapN_R l l.length (Nat.le_refl _), List.drop_length]
  unfold restL
  rw [gapSp_app]; rfl
theorem gap_can : ∀ (l : List Sp) (f z : Int), CanF f l → z < f → CanF z (gapR f l)
  | [], f, z, _, hz => by
    unfold gapR
    split
    · rename_i h; exact ⟨hz, h, trivial⟩
    · trivial
  | s :: l, f, z, h, hz => by
    unfold gapR
    rw [if_pos h.1]
    exact ⟨hz, h.1, gap_can l s.b s.a h.2.2 h.2.1⟩
theorem gap_in : ∀ (l : List Sp) (f : Int), CanF (f - 1) l → (∀ s ∈ l, s.b ≤ MX) → ∀ u, InR (gapR f l) u ↔ f ≤ u ∧ u < MX ∧ ¬ InR l u
  | [], f, _, _, u => by
    unfold gapR
    split
    · simp only [InR, or_false, not_false_eq_true, and_true]
    · simp only [InR, not_false_eq_true, and_true, false_iff]; omega
  | s :: l, f, h, hm, u => by
    have h1 := h.1; have h2 := h.2.1
    have hs := hm s (by simp)
    have ih := gap_in l s.b (can_mono h.2.2 (by omega)) (fun t ht => hm t (by simp [ht])) u
    unfold gapR
    rw [inR_app, ih]
    simp only [InR]
    have low : InR l u → s.b < u := fun q => can_low h.2.2 q
    constructor
    · rintro (q | ⟨q1, q2, q3⟩)
      · split at q
        · simp only [InR, or_false] at q
          refine ⟨q.1, by omega, ?_⟩
          rintro (r | r)
          · omega
          · have := low r; omega
        · exact q.elim
      · refine ⟨by omega, q2, ?_⟩
        rintro (r | r)
        · omega
        · exact q3 r
    · rintro ⟨q1, q2, q3⟩
      by_cases hu : u < s.a
      · left
        rw [if_pos (by omega)]
        exact .inl ⟨q1, hu⟩
      · right
        have : ¬ (s.a ≤ u ∧ u < s.b) := fun r => q3 (.inl r)
        exact ⟨by omega, q2, fun r => q3 (.inr r)⟩
theorem rest_ok {l : List Sp} (h : SetP l) (hr : Rng l) : (∃ z, CanF z (restL l)) ∧ ∀ u, InR (restL l) u ↔ MN ≤ u ∧ u < MX ∧ ¬ InR l u := by
  rw [restL_R]
  have hc : CanF (MN - 1) l := by
    cases l with
    | nil => trivial
    | cons s l => exact ⟨by have := (hr s (by simp)).1; omega, setP_can h⟩
  refine ⟨?_, gap_in l MN hc fun s hs => (hr s hs).2⟩
  cases l with
  | nil => exact ⟨MN - 1, gap_can [] MN _ trivial (by omega)⟩
  | cons s l =>
    by_cases hs : MN < s.a
    · exact ⟨MN - 1, gap_can _ MN _ ⟨hs, setP_can h⟩ (by omega)⟩
    · have h2 := setP_can h
      refine ⟨s.a, ?_⟩
      unfold gapR
      rw [if_neg hs, List.nil_append]
      exact gap_can l s.b s.a h2.2 h2.1
end Go.Px.Fb
end
/- FbW -/
section
set_option linter.unusedVariables false
namespace Go.Px.Fb
/-! ## numbers in order -/
def SrtF : Int → List Int → Prop
  | _, [] => True
  | x, y :: l => x < y ∧ SrtF y l
theorem srt_mono {l : List Int} {x y : Int} (h : SrtF x l) (q : y ≤ x) : SrtF y l := by
  cases l with
  | nil => trivial
  | cons s l => exact ⟨by have := h.1; omega, h.2⟩
theorem ins_srt {x : Int} : ∀ {l : List Int} {z : Int}, SrtF z l → z < x → SrtF z (insI x l)
  | [], z, _, h => ⟨h, trivial⟩
  | y :: l, z, h, hx => by
    unfold insI
    split
    · rename_i q; exact ⟨h.1, ins_srt h.2 q⟩
    · split
      · exact h
      · exact ⟨hx, by omega, h.2⟩
theorem ins_mem {x u : Int} : ∀ {l : List Int}, u ∈ insI x l ↔ u = x ∨ u ∈ l
  | [] => by simp [insI]
  | y :: l => by
    have ih := ins_mem (x := x) (u := u) (l := l)
    unfold insI
    split
    · simp only [List.mem_cons, ih]
      constructor
      · rintro (h | h | h)
        · exact .inr (.inl h)
        · exact .inl h
        · exact .inr (.inr h)
      · rintro (h | h | h)
        · exact .inr (.inl h)
        · exact .inl h
        · exact .inr (.inr h)
    · split
      · rename_i q
        simp only [List.mem_cons]
        constructor
        · exact .inr
        · rintro (h | h)
          · exact .inl (by omega)
          · exact h
      · simp only [List.mem_cons]
theorem ends_srt (l : List Sp) {z : Int} : ∀ i, (∀ j, j < i → z < endAt l j) → SrtF z (endsN l i)
  | 0, _ => trivial
  | i + 1, h => ins_srt (ends_srt l i fun j hj => h j (by omega)) (h i (by omega))
theorem ends_ex (l : List Sp) : ∀ i, ∃ z, ∀ j, j < i → z < endAt l j
  | 0 => ⟨0, fun j hj => by omega⟩
  | i + 1 => by
    obtain ⟨z, h⟩ := ends_ex l i
    refine ⟨min z (endAt l i - 1), fun j hj => ?_⟩
    rcases lt_succ_cases hj with q | rfl
    · have := h j q; omega
    · omega
theorem ends_mem (l : List Sp) {u : Int} : ∀ i, u ∈ endsN l i ↔ ∃ j, j < i ∧ u = endAt l j
  | 0 => by simp [endsN]
  | i + 1 => by
    simp only [endsN, ins_mem, ends_mem l i]
    constructor
    · rintro (h | ⟨j, h1, h2⟩)
      · exact ⟨i, by omega, h⟩
      · exact ⟨j, by omega, h2⟩
    · rintro ⟨j, h1, h2⟩
      rcases lt_succ_cases h1 with q | rfl
      · exact .inr ⟨j, q, h2⟩
      · exact .inl h2
theorem srt_lt : ∀ {l : List Int} {z : Int}, SrtF z l → ∀ i j, i < j → j < l.length → l.getD i default < l.getD j default
  | y :: l, z, h, i, j, hij, hj => by
    obtain ⟨j, rfl⟩ : ∃ k, j = k + 1 := ⟨j - 1, by omega⟩
    have hj' : j < l.length := by simpa using hj
    cases i with
    | zero =>
      cases l with
      | nil => simp at hj'
      | cons w l =>
        cases j with
        | zero => simpa using h.2.1
        | succ j =>
          have := srt_lt h.2 0 (j + 1) (by omega) hj'
          have h1 := h.2.1
          simp only [List.getD_cons_zero, List.getD_cons_succ] at this ⊢
          omega
    | succ i =>
      have := srt_lt h.2 i j (by omega) hj'
      simpa using this
theorem mem_at {l : List Int} {u : Int} (h : u ∈ l) : ∃ k, k < l.length ∧ l.getD k default = u := by
  obtain ⟨k, hk, e⟩ := List.getElem_of_mem h
  exact ⟨k, hk, by rw [List.getD_eq_getElem?_getD, List.getElem?_eq_getElem hk]; exact e⟩
theorem end_a (l : List Sp) {s : Sp} (h : s ∈ l) : s.a ∈ endsN l (2 * l.length) ∧ s.b ∈ endsN l (2 * l.length) := by
  obtain ⟨k, hk, e⟩ := List.getElem_of_mem h
  have e' : l.getD k default = s := by rw [List.getD_eq_getElem?_getD, List.getElem?_eq_getElem hk]; exact e
  refine ⟨(ends_mem l _).2 ⟨2 * k, by omega, ?_⟩, (ends_mem l _).2 ⟨2 * k + 1, by omega, ?_⟩⟩
  · unfold endAt
    rw [if_neg (by omega), show 2 * k / 2 = k by omega, e']
  · unfold endAt
    rw [if_pos (by omega), show (2 * k + 1) / 2 = k by omega, e']
theorem find_cell {S : List Int} {u : Int} : ∀ (d k : Nat), S.getD k default ≤ u → u < S.getD (k + d) default → ∃ j, j + 1 ≤ k + d ∧ S.getD j default ≤ u ∧ u < S.getD (j + 1) default
  | 0, k, h1, h2 => by simp only [Nat.add_zero] at h2; omega
  | d + 1, k, h1, h2 => by
    by_cases h : u < S.getD (k + 1) default
    · exact ⟨k, by omega, h1, h⟩
    · obtain ⟨j, q1, q2⟩ := find_cell (S := S) (u := u) d (k + 1) (by omega) (by rw [show k + 1 + d = k + (d + 1) by omega]; exact h2)
      exact ⟨j, by omega, q2⟩
/-! ## a set, one more at its end -/
theorem can_snoc : ∀ {o : List Sp} {s : Sp} {z : Int}, CanF z (o ++ [s]) ↔ CanF z o ∧ (∀ t ∈ o, t.b < s.a) ∧ z < s.a ∧ s.a < s.b
  | [], s, z => by simp [CanF]
  | t :: o, s, z => by
    have ih := can_snoc (o := o) (s := s) (z := t.b)
    simp only [List.cons_append, CanF, ih, List.mem_cons, forall_eq_or_imp]
    constructor
    · rintro ⟨h1, h2, h3, h4, h5, h6⟩
      exact ⟨⟨h1, h2, h3⟩, ⟨h5, h4⟩, by omega, h6⟩
    · rintro ⟨⟨h1, h2, h3⟩, ⟨h5, h4⟩, _, h6⟩
      exact ⟨h1, h2, h3, h4, h5, h6⟩
theorem add_snoc (o : List Sp) (s : Sp) (x y : Int) : addSp (o ++ [s]) x y = if s.b = x then o ++ [⟨s.a, y⟩] else o ++ [s] ++ [⟨x, y⟩] := by
  have e : (o ++ [s]).length - 1 = o.length := by simp
  have g : (o ++ [s]).getD o.length default = s := by
    rw [List.getD_eq_getElem?_getD, List.getElem?_append_right (Nat.le_refl _)]; simp
  have st : ∀ w : Sp, (o ++ [s]).set o.length w = o ++ [w] := fun w => by
    rw [List.set_append_right _ _ (Nat.le_refl _)]; simp
  unfold addSp
  rw [e, g]
  by_cases h : s.b = x
  · rw [if_pos ⟨by simp, h⟩, if_pos h, st]
  · rw [if_neg (fun q => h q.2), if_neg h]
/-- what stands at a step -/
structure Stp (S : List Int) (P : Int → Prop) (z : Int) (i : Nat) (o : List Sp) : Prop where
  can : CanF z o
  le : ∀ t ∈ o, t.b ≤ S.getD i default
  mem : ∀ u, InR o u ↔ ∃ j, j < i ∧ S.getD j default ≤ u ∧ u < S.getD (j + 1) default ∧ P (S.getD j default)
theorem Stp.no {S : List Int} {P : Int → Prop} {z : Int} {i : Nat} {o : List Sp} (h : Stp S P z i o) (hlt : S.getD i default < S.getD (i + 1) default) (hp : ¬ P (S.getD i default)) : Stp S P z (i + 1) o := by
  refine ⟨h.can, fun t ht => by have := h.le t ht; omega, fun u => ?_⟩
  rw [h.mem u]
  constructor
  · rintro ⟨j, h1, h2⟩; exact ⟨j, by omega, h2⟩
  · rintro ⟨j, h1, h2, h3, h4⟩
    rcases lt_succ_cases h1 with q | rfl
    · exact ⟨j, q, h2, h3, h4⟩
    · exact absurd h4 hp
theorem Stp.yes {S : List Int} {P : Int → Prop} {z : Int} {i : Nat} {o : List Sp} (h : Stp S P z i o) (hlt : S.getD i default < S.getD (i + 1) default) (hz : z < S.getD i default) (hp : P (S.getD i default)) : Stp S P z (i + 1) (addSp o (S.getD i default) (S.getD (i + 1) default)) := by
  have hmem : ∀ u, (∃ j, j < i + 1 ∧ S.getD j default ≤ u ∧ u < S.getD (j + 1) default ∧ P (S.getD j default)) ↔ InR o u ∨ (S.getD i default ≤ u ∧ u < S.getD (i + 1) default) := fun u => by
    rw [h.mem u]
    constructor
    · rintro ⟨j, h1, h2, h3, h4⟩
      rcases lt_succ_cases h1 with q | rfl
      · exact .inl ⟨j, q, h2, h3, h4⟩
      · exact .inr ⟨h2, h3⟩
    · rintro (⟨j, h1, h2⟩ | ⟨h1, h2⟩)
      · exact ⟨j, by omega, h2⟩
      · exact ⟨i, by omega, h1, h2, hp⟩
  rcases List.eq_nil_or_concat o with rfl | ⟨o, s, rfl⟩
  · refine ⟨⟨hz, hlt, trivial⟩, fun t ht => ?_, fun u => ?_⟩
    · have ht : t ∈ [(⟨S.getD i default, S.getD (i + 1) default⟩ : Sp)] := ht
      simp only [List.mem_singleton] at ht
      rw [ht]; exact Int.le_refl _
    · rw [hmem u]
      show InR [(⟨S.getD i default, S.getD (i + 1) default⟩ : Sp)] u ↔ _
      simp only [InR, or_false, false_or]
  · rw [List.concat_eq_append] at h hmem ⊢
    obtain ⟨c1, c2, c3, c4⟩ := can_snoc.1 h.can
    have hs := h.le s (by simp)
    rw [add_snoc]
    split
    · rename_i hb
      refine ⟨can_snoc.2 ⟨c1, c2, c3, by show s.a < S.getD (i + 1) default; omega⟩, fun t ht => ?_, fun u => ?_⟩
      · rw [List.mem_append] at ht
        rcases ht with ht | ht
        · have := h.le t (by simp [ht]); omega
        · simp only [List.mem_singleton] at ht
          rw [ht]; exact Int.le_refl _
      · rw [hmem u, inR_app, inR_app]
        simp only [InR, or_false]
        rw [or_assoc]
        refine or_congr Iff.rfl ?_
        omega
    · rename_i hb
      refine ⟨can_snoc.2 ⟨h.can, fun t ht => ?_, hz, hlt⟩, fun t ht => ?_, fun u => ?_⟩
      · show t.b < S.getD i default
        rw [List.mem_append] at ht
        rcases ht with ht | ht
        · have := c2 t ht; omega
        · simp only [List.mem_singleton] at ht
          subst ht; omega
      · rw [List.mem_append] at ht
        rcases ht with ht | ht
        · have := h.le t ht; omega
        · simp only [List.mem_singleton] at ht
          rw [ht]; exact Int.le_refl _
      · rw [hmem u, inR_app]
        simp only [InR, or_false]
theorem minus_ok {a b : List Sp} (sa : SetP a) (sb : SetP b) : (∃ z, CanF z (minusL a b)) ∧ ∀ u, InR (minusL a b) u ↔ InR a u ∧ ¬ InR b u := by
  obtain ⟨z, hz⟩ := ends_ex (a ++ b) (2 * (a ++ b).length)
  have hs : SrtF z (endsAB a b) := ends_srt (a ++ b) _ hz
  have hlt := srt_lt hs
  have hgt : ∀ i, i < (endsAB a b).length → z < (endsAB a b).getD i default := fun i hi => by
    have : (endsAB a b).getD i default ∈ endsAB a b := by
      rw [List.getD_eq_getElem?_getD, List.getElem?_eq_getElem hi]; exact List.getElem_mem hi
    obtain ⟨j, j1, j2⟩ := (ends_mem (a ++ b) _).1 this
    rw [j2]; exact hz j j1
  have step : ∀ i, i ≤ (endsAB a b).length - 1 → Stp (endsAB a b) (fun x => InP a x ∧ ¬ InP b x) z i (ofN a b i) := by
    intro i
    induction i with
    | zero => intro _; exact ⟨trivial, fun t ht => by simp [ofN] at ht, fun u => ⟨fun h => h.elim, fun ⟨j, h, _⟩ => by omega⟩⟩
    | succ i ih =>
      intro hi
      have h := ih (by omega)
      have hl := hlt i (i + 1) (by omega) (by omega)
      unfold ofN
      split
      · rename_i hp; exact h.yes hl (hgt i (by omega)) hp
      · rename_i hp; exact h.no hl hp
  have fin := step _ (Nat.le_refl _)
  refine ⟨⟨z, fin.can⟩, fun u => ?_⟩
  show InR (ofN a b ((endsAB a b).length - 1)) u ↔ _
  rw [fin.mem u]
  -- what holds at an end holds up to the next
  have const : ∀ (c : List Sp), (∀ s ∈ c, s.a ∈ endsAB a b ∧ s.b ∈ endsAB a b) → ∀ j, j + 1 < (endsAB a b).length → (endsAB a b).getD j default ≤ u → u < (endsAB a b).getD (j + 1) default → (InR c u ↔ InR c ((endsAB a b).getD j default)) := by
    intro c
    induction c with
    | nil => intros; exact Iff.rfl
    | cons s c ih =>
      intro hc j hj h1 h2
      have ih := ih (fun t ht => hc t (by simp [ht])) j hj h1 h2
      simp only [InR]
      refine or_congr ?_ ih
      obtain ⟨m1, m2⟩ := hc s (by simp)
      obtain ⟨k, k1, k2⟩ := mem_at m1
      obtain ⟨l, l1, l2⟩ := mem_at m2
      have q1 : s.a ≤ u ↔ s.a ≤ (endsAB a b).getD j default := by
        constructor
        · intro h
          by_cases hkj : k ≤ j
          · rcases Nat.lt_or_ge k j with r | r
            · have := hlt k j r (by omega); omega
            · have : k = j := by omega
              subst this; omega
          · rcases Nat.lt_or_ge (j + 1) k with r | r
            · have := hlt (j + 1) k r k1; omega
            · have : k = j + 1 := by omega
              subst this; omega
        · intro h; omega
      have q2 : u < s.b ↔ (endsAB a b).getD j default < s.b := by
        constructor
        · intro h; omega
        · intro h
          have hjl : j < l := by
            rcases Nat.lt_or_ge j l with r | r
            · exact r
            · rcases Nat.lt_or_ge l j with r' | r'
              · have := hlt l j r' (by omega); omega
              · have : l = j := by omega
                subst this; omega
          rcases Nat.lt_or_ge (j + 1) l with r | r
          · have := hlt (j + 1) l r l1; omega
          · have : l = j + 1 := by omega
            subst this; omega
      rw [q1, q2]
  have ma : ∀ s ∈ a, s.a ∈ endsAB a b ∧ s.b ∈ endsAB a b := fun s hs => end_a (a ++ b) (by simp [hs])
  have mb : ∀ s ∈ b, s.a ∈ endsAB a b ∧ s.b ∈ endsAB a b := fun s hs => end_a (a ++ b) (by simp [hs])
  constructor
  · rintro ⟨j, j1, j2, j3, j4, j5⟩
    rw [inP_R] at j4 j5
    rw [const a ma j (by omega) j2 j3, const b mb j (by omega) j2 j3]
    exact ⟨j4, j5⟩
  · rintro ⟨h1, h2⟩
    obtain ⟨i, i1, i2, i3⟩ := inP_R.2 h1
    have hm : a.getD i default ∈ a := by
      rw [List.getD_eq_getElem?_getD, List.getElem?_eq_getElem i1]; exact List.getElem_mem i1
    obtain ⟨m1, m2⟩ := ma _ hm
    obtain ⟨k, k1, k2⟩ := mem_at m1
    obtain ⟨l, l1, l2⟩ := mem_at m2
    have hkl : k < l := by
      rcases Nat.lt_or_ge k l with r | r
      · exact r
      · rcases Nat.lt_or_ge l k with r' | r'
        · have := hlt l k r' k1; omega
        · have : l = k := by omega
          subst this; omega
    obtain ⟨j, q1, q2, q3⟩ := find_cell (S := endsAB a b) (u := u) (l - k) k (by omega) (by rw [show k + (l - k) = l by omega]; omega)
    refine ⟨j, by omega, q2, q3, ?_, ?_⟩
    · rw [inP_R, ← const a ma j (by omega) q2 q3]; exact h1
    · rw [inP_R, ← const b mb j (by omega) q2 q3]; exact h2
/-- THE TWO WAYS come to the same -/
theorem sets_same {a b : List Sp} (sa : SetP a) (sb : SetP b) (ra : Rng a) (rb : Rng b) : meetL a (restL b) = minusL a b := by
  obtain ⟨x, cx⟩ := setP_ex sa
  obtain ⟨⟨y, cy⟩, hr⟩ := rest_ok sb rb
  obtain ⟨c1, m1⟩ := meet_ok _ a (restL b) x y (Nat.le_refl _) cx cy
  obtain ⟨⟨z, c2⟩, m2⟩ := minus_ok sa sb
  refine can_ext c1 c2 fun u => ?_
  rw [m1 u, m2 u, hr u]
  constructor
  · rintro ⟨h1, _, _, h2⟩; exact ⟨h1, h2⟩
  · rintro ⟨h1, h2⟩
    obtain ⟨i, i1, i2, i3⟩ := inP_R.2 h1
    have hm : a.getD i default ∈ a := by
      rw [List.getD_eq_getElem?_getD, List.getElem?_eq_getElem i1]; exact List.getElem_mem i1
    have := ra _ hm
    exact ⟨h1, by omega, by omega, h2⟩
end Go.Px.Fb
end
/- FbZ -/
section
set_option linter.unusedVariables false
namespace Go.Px.Fb
/-! ## the order -/
theorem cmpI_lt {a b : Int} : cmpI a b < 0 ↔ a < b := by unfold cmpI; split <;> (try split) <;> omega
theorem cmpI_eq {a b : Int} : cmpI a b = 0 ↔ a = b := by unfold cmpI; split <;> (try split) <;> omega
theorem or3_lt {x y z : Int} : orI [x, y, z] < 0 ↔ x < 0 ∨ (x = 0 ∧ (y < 0 ∨ (y = 0 ∧ z < 0))) := by rw [orI3]; split <;> (try split) <;> omega
theorem or3_eq {x y z : Int} : orI [x, y, z] = 0 ↔ x = 0 ∧ y = 0 ∧ z = 0 := by rw [orI3]; split <;> (try split) <;> omega
theorem cB_eq : ∀ {a b : List UInt8}, Lib.compareBytes a b = 0 → a = b
  | [], [], _ => rfl
  | [], _ :: _, h => by simp [Lib.compareBytes] at h
  | _ :: _, [], h => by simp [Lib.compareBytes] at h
  | x :: a, y :: b, h => by
    simp only [Lib.compareBytes] at h
    split at h
    · omega
    · split at h
      · omega
      · rename_i h1 h2
        have : x = y := by
          apply UInt8.toNat_inj.1
          rw [UInt8.lt_iff_toNat_lt] at h1 h2; omega
        rw [this, cB_eq h]
theorem cB_lt {x y : UInt8} {a b : List UInt8} : Lib.compareBytes (x :: a) (y :: b) < 0 ↔ x.toNat < y.toNat ∨ (x.toNat = y.toNat ∧ Lib.compareBytes a b < 0) := by
  simp only [Lib.compareBytes, UInt8.lt_iff_toNat_lt]
  split
  · omega
  · split <;> omega
theorem cB_trans : ∀ {a b c : List UInt8}, Lib.compareBytes a b < 0 → Lib.compareBytes b c < 0 → Lib.compareBytes a c < 0
  | [], [], _, h, _ => by simp [Lib.compareBytes] at h
  | _ :: _, [], _, h, _ => by simp [Lib.compareBytes] at h
  | [], _ :: _, [], _, h => by simp [Lib.compareBytes] at h
  | _ :: _, _ :: _, [], _, h => by simp [Lib.compareBytes] at h
  | [], _ :: _, _ :: _, _, _ => by simp [Lib.compareBytes]
  | x :: a, y :: b, z :: c, h1, h2 => by
    rw [cB_lt] at h1 h2 ⊢
    rcases h1 with h1 | ⟨h1, k1⟩ <;> rcases h2 with h2 | ⟨h2, k2⟩
    · left; omega
    · left; omega
    · left; omega
    · right; exact ⟨by omega, cB_trans k1 k2⟩
theorem cmpVa_lt {a b : Va} : cmpVa a b < 0 ↔ a.k < b.k ∨ (a.k = b.k ∧ (a.n < b.n ∨ (a.n = b.n ∧ Lib.compareBytes a.s b.s < 0))) := by
  unfold cmpVa; rw [or3_lt]; simp only [cmpI_lt, cmpI_eq]
theorem cmpVa_eq {a b : Va} (h : cmpVa a b = 0) : a = b := by
  unfold cmpVa at h
  rw [or3_eq] at h
  simp only [cmpI_eq] at h
  have := cB_eq h.2.2
  cases a; cases b; simp only [] at h this; rw [h.1, h.2.1, this]
theorem cmpVa_trans {a b c : Va} (h1 : cmpVa a b < 0) (h2 : cmpVa b c < 0) : cmpVa a c < 0 := by
  rw [cmpVa_lt] at *
  rcases h1 with h1 | ⟨h1, h1' | ⟨h1', k1⟩⟩ <;> rcases h2 with h2 | ⟨h2, h2' | ⟨h2', k2⟩⟩ <;> first | (left; omega) | (right; refine ⟨by omega, ?_⟩; first | (left; omega) | (right; exact ⟨by omega, cB_trans k1 k2⟩))
theorem cmpFa_lt {a b : Fa} : cmpFa a b < 0 ↔ a.e < b.e ∨ (a.e = b.e ∧ (a.a < b.a ∨ (a.a = b.a ∧ cmpVa a.v b.v < 0))) := by
  unfold cmpFa; rw [or3_lt]; simp only [cmpI_lt, cmpI_eq]
theorem cmpFa_eq {a b : Fa} (h : cmpFa a b = 0) : a.e = b.e ∧ a.a = b.a ∧ a.v = b.v := by
  unfold cmpFa at h
  rw [or3_eq] at h
  simp only [cmpI_eq] at h
  exact ⟨h.1, h.2.1, cmpVa_eq h.2.2⟩
theorem cmpFa_trans {a b c : Fa} (h1 : cmpFa a b < 0) (h2 : cmpFa b c < 0) : cmpFa a c < 0 := by
  rw [cmpFa_lt] at *
  rcases h1 with h1 | ⟨h1, h1' | ⟨h1', k1⟩⟩ <;> rcases h2 with h2 | ⟨h2, h2' | ⟨h2', k2⟩⟩ <;> first | (left; omega) | (right; refine ⟨by omega, ?_⟩; first | (left; omega) | (right; exact ⟨by omega, cmpVa_trans k1 k2⟩))
theorem cmpFa_r {x a b : Fa} (h : cmpFa a b = 0) : cmpFa x a = cmpFa x b := by
  obtain ⟨h1, h2, h3⟩ := cmpFa_eq h
  unfold cmpFa; rw [h1, h2, h3]
/-! ## lists in order -/
theorem all_sorted {l : List Fa} (h : AllP l) : ∀ j i, i < j → j < l.length → cmpFa (l.getD i default) (l.getD j default) < 0
  | 0, i, hij, _ => by omega
  | j + 1, i, hij, hj => by
    have h1 := (h (j + 1) hj).2 (by omega)
    simp only [Nat.add_sub_cancel] at h1
    rcases lt_succ_cases hij with q | rfl
    · exact cmpFa_trans (all_sorted h j i q (by omega)) h1
    · exact h1
theorem all_mono {l : List Fa} (h : AllP l) (f : Fa) : Mono l f := fun j m hjm hm q => by
  rcases Nat.lt_or_ge j m with r | r
  · exact cmpFa_trans (all_sorted h m j r hm) q
  · have : j = m := by omega
    rw [this]; exact q
theorem firstG_spec (f : Fa) : ∀ l : List Fa, firstG l f ≤ l.length ∧ (∀ j, j < firstG l f → cmpFa (l.getD j default) f < 0) ∧ (firstG l f < l.length → ¬ cmpFa (l.getD (firstG l f) default) f < 0)
  | [] => ⟨Nat.le_refl _, fun j hj => by simp [firstG] at hj, fun h => by simp at h⟩
  | x :: l => by
    obtain ⟨h1, h2, h3⟩ := firstG_spec f l
    unfold firstG
    split
    · rename_i hx
      refine ⟨by simp only [List.length_cons]; omega, fun j hj => ?_, fun h => ?_⟩
      · cases j with
        | zero => simpa using hx
        | succ j => simpa using h2 j (by omega)
      · simpa using h3 (by simpa using h)
    · rename_i hx
      exact ⟨by omega, fun j hj => by omega, fun _ => by simpa using hx⟩
theorem findB_L {l : List Fa} (h : AllP l) (f : Fa) : findB l f = findL l f := by
  obtain ⟨h1, h2, h3⟩ := firstG_spec f l
  unfold findB
  by_cases q : firstG l f < l.length ∧ cmpFa (l.getD (firstG l f) default) f = 0
  · rw [bd_of q, cond_true, findL_at (i := firstG l f) q.1 (fun j hj => by have := h2 j hj; omega) q.2]
  · rw [bd_no q, cond_false, findL_0]
    intro j hj hz
    rcases Nat.lt_trichotomy j (firstG l f) with r | r | r
    · have := h2 j r; omega
    · subst r; exact q ⟨hj, hz⟩
    · have := all_sorted h j (firstG l f) r hj
      rw [cmpFa_r hz] at this
      exact h3 (by omega) this
theorem firstG_key (f : Fa) : ∀ l : List Fa, firstG l (keyF f) = firstG l f
  | [] => rfl
  | x :: l => by
    have ih := firstG_key f l
    unfold firstG
    rw [ih]; rfl
theorem findB_key (l : List Fa) (f : Fa) : findB l (keyF f) = findB l f := by
  unfold findB
  rw [firstG_key]; rfl
theorem findL_of {Q : List Sp → Prop} (h0 : Q []) (f : Fa) : ∀ {l : List Fa}, (∀ i, i < l.length → Q (l.getD i default).l) → Q (findL l f)
  | [], _ => h0
  | x :: l, h => by
    unfold findL
    split
    · exact h 0 (by simp)
    · exact findL_of h0 f fun i hi => h (i + 1) (by simpa using hi)
theorem set_nil : SetP [] := fun i hi => by simp at hi
/-! ## what is left -/
theorem left_same {D E : Fa → List Sp} {a : List Fa} (h : ∀ i, i < a.length → D (a.getD i default) = E (a.getD i default)) : ∀ i, i ≤ a.length → leftN D a i = leftN E a i
  | 0, _ => rfl
  | i + 1, hi => by
    unfold leftN
    rw [h i (by omega), left_same h i (by omega)]
def RngF (l : List Fa) : Prop := ∀ i, i < l.length → Rng (l.getD i default).l
/-- THE PLAIN LAW -/
theorem less_same {a b : List Fa} (pa : AllP a) (pb : AllP b) (ra : RngF a) (rb : RngF b) : leftN (less1 b) a a.length = leftN (less2 b) a a.length := by
  refine left_same (fun i hi => ?_) _ (Nat.le_refl _)
  unfold less1 less2
  rw [findB_key, findB_L pb]
  exact sets_same (pa i hi).1.2.2 (findL_of set_nil _ fun j hj => (pb j hj).1.2.2) (ra i hi) (findL_of (fun s hs => by simp at hs) _ rb)
end Go.Px.Fb
end
/- FbS -/
section
set_option linter.unusedVariables false
set_option linter.unusedSimpArgs false
set_option maxHeartbeats 4000000
namespace Go.Px.Fb
open Go.Proofs
attribute [local irreducible] Go.Px.KOk
/-- how great the first facts are -/
def sumN (l : List Fa) : Nat → Nat
  | 0 => 0
  | i + 1 => sumN l i + 20 + (l.getD i default).v.s.length + 4 * (l.getD i default).l.length
/-- within what came in -/
def InB (l : List Fa) : Prop := l.length ≤ 1048576 ∧ ∀ i, (l.getD i default).v.s.length ≤ 1048576 ∧ (l.getD i default).l.length ≤ 1048576
theorem sumN_le {l : List Fa} (h : InB l) : ∀ i, sumN l i ≤ i * 5242900
  | 0 => by simp [sumN]
  | i + 1 => by
    have h1 := sumN_le h i
    have h2 := h.2 i
    simp only [sumN]; omega
def greatI (l : List Fa) : Int := if 3000 < sumN l l.length then 1 else 0
noncomputable def r4_0 : List Oper := ((drawn (Try.f4.body.getD .skip))[0]?).getD []
theorem dr4_0 : chkOrd cF r4_0 [0, 1, 2, 3, 4, 5, 6, 7, 8, 9, 10, 11, 12, 13, 14, 15, 16, 17, 18] = true := by kernel_rfl
theorem k4 (l : List Fa) (hl : InB l) : KOk cF 4 [fasA l] (.int .i64 (greatI l)) := by
  have hn := hl.1
  refine KOk.of cF_ok eF.g Try.func4 rfl (Nat.le_of_ble_eq_true rfl) fun w F => ?_
  repeat' first | refine Go.seq ?_ | refine Go.region rfl ?_ | refine Ops.nil ?_ | refine Ops.val eF rfl rfl (by first | exact Want.no rfl | exact Want.tT rfl rfl rfl rfl | exact Want.fF rfl rfl rfl rfl) (by first | exact Hop.assign rfl rfl) ?_ | refine Go.block ?_
  refine Go.loop (fun i : Nat => [(0, fasA l), (3, .int .i64 (sumN l i)), (4, .int .i64 i)]) (fun _ => hp []) (fun i => i ≤ l.length) (fun i => l.length - i) 0 (by omega) ⟨rfl, rfl, rfl, trivial⟩ rfl (fun i hi ih => ?_)
  have hs : sumN l i ≤ 5497579110400 := by
    have := sumN_le hl i
    have : i * 5242900 ≤ 1048576 * 5242900 := Nat.mul_le_mul_right _ (by omega)
    omega
  have h1 := (hl.2 (i : Int).toNat).1
  have h2 := (hl.2 (i : Int).toNat).2
  repeat' first | refine Go.seq ?_ | refine Go.region rfl ?_ | refine Ops.nil ?_ | refine Ops.val eF rfl rfl (by first | exact Want.no rfl | exact Want.tT rfl rfl rfl rfl | exact Want.fF rfl rfl rfl rfl) (by first | exact Hop.move rfl rfl | exact Hop.assign rfl rfl | exact Hop.lss rfl rfl rfl | exact Hop.gtr rfl rfl rfl | exact Hop.lenD eF rfl rfl rfl rfl rfl rfl rfl) ?_ | refine Go.condPt rfl (fun _ => ?_) (fun _ => ?_) | refine Go.block ?_ | refine Go.skip ?_ | refine Go.exit rfl ?_ | refine Go.retF rfl ?_ rfl
  · refine Go.draw eF hm [] [0, 1, 2, 3, 4, 5, 6, 7, 8, 9, 10, 11, 12, 13, 14, 15, 16, 17, 18] dr4_0 ?_
    repeat' first | refine Dr.nil ?_ | refine Dr.pure rfl rfl rfl rfl (by first | exact Want.no rfl | exact Want.tT rfl rfl rfl rfl | exact Want.fF rfl rfl rfl rfl) (by first | exact Hop.move rfl rfl | exact Hop.assign rfl rfl | exact Hop.add rfl rfl rfl (by omega) | exact Hop.mul rfl rfl rfl (by omega) | exact Hop.faR eF rfl rfl rfl rfl rfl rfl rfl | exact Hop.idx eF rfl rfl rfl rfl rfl rfl rfl (fun _ => rfl) (by omega) | exact Hop.ldR eF rfl rfl rfl rfl rfl | exact Hop.lenD eF rfl rfl rfl rfl rfl rfl rfl | exact Hop.lenS eF rfl rfl rfl rfl rfl rfl rfl) ?_ | refine Dr.light rfl rfl rfl rfl (by first | exact Want.no rfl | exact Want.tT rfl rfl rfl rfl | exact Want.fF rfl rfl rfl rfl) (by first | exact Hop.ldR eF rfl rfl rfl rfl rfl | exact Hop.lenD eF rfl rfl rfl rfl rfl rfl rfl | exact Hop.lenS eF rfl rfl rfl rfl rfl rfl rfl) ?_
    repeat' first | refine Go.region rfl ?_ | refine Ops.nil ?_ | refine Ops.val eF rfl rfl (by first | exact Want.no rfl | exact Want.tT rfl rfl rfl rfl | exact Want.fF rfl rfl rfl rfl) (by first | exact Hop.move rfl rfl | exact Hop.assign rfl rfl | exact Hop.add rfl rfl rfl (by omega)) ?_ | refine Go.unblk ?_
    refine Go.to (ih (i + 1) (by omega) (by omega)) ⟨rfl, ?_, rfl, trivial⟩
    show some (AV.int .i64 _) = some (AV.int .i64 _)
    congr 2
  all_goals
    have hi' : i = l.length := by omega
    subst hi'
  · rename_i q
    rw [show greatI l = 1 from if_pos (by omega)]; rfl
  · rename_i q
    rw [show greatI l = 0 from if_neg (by omega)]; rfl
end Go.Px.Fb
end
/- FbU -/
section
set_option linter.unusedVariables false
set_option linter.unusedSimpArgs false
set_option maxHeartbeats 4000000
namespace Go.Px.Fb
open Go.Proofs
attribute [local irreducible] Go.Px.KOk
theorem k5 (a b : List Fa) (ha : FasB a) (hb : FasB b) (pa : AllP a) (pb : AllP b) : KOk cF 5 [fasA a, fasA b] (.tup [fasA (leftN (less1 a) b b.length), fasA (leftN (less1 b) a a.length), .int .i64 0]) := by
  have k1 := k8 a ha
  have k2 := k8 b hb
  rw [bd_of pa] at k1
  rw [bd_of pb] at k2
  have k1 : KOk cF 8 [fasA a] (.int .i64 0) := k1
  have k2 : KOk cF 8 [fasA b] (.int .i64 0) := k2
  have k3 := k9 b a hb ha pb pa (all_mono pa) (fun f => by rw [findB_L pa]; exact findL_of set_nil f fun j hj => (pa j hj).1.2.2)
  have k4 := k9 a b ha hb pa pb (all_mono pb) (fun f => by rw [findB_L pb]; exact findL_of set_nil f fun j hj => (pb j hj).1.2.2)
  refine KOk.of cF_ok eF.g Try.func5 rfl (Nat.le_of_ble_eq_true rfl) fun w F => ?_
  repeat' first | refine Go.seq ?_ | refine Go.region rfl ?_ | refine Ops.nil ?_ | refine Ops.val eF rfl rfl (by first | exact Want.no rfl | exact Want.tT rfl rfl rfl rfl | exact Want.fF rfl rfl rfl rfl) (by first | exact Hop.move rfl rfl | exact Hop.assign rfl rfl | exact Hop.pickT rfl rfl rfl | exact Hop.pickF rfl rfl rfl | exact Hop.neq rfl rfl rfl) ?_ | refine Ops.skip rfl rfl (by first | exact Want.fT rfl rfl rfl rfl | exact Want.tF rfl rfl rfl rfl | exact Want.und rfl rfl rfl rfl) ?_ | refine Ops.gN rfl rfl (fun _ => ?_) (fun _ => ?_) | refine Ops.call eF rfl rfl (by first | exact Want.no rfl | exact Want.tT rfl rfl rfl rfl | exact Want.fF rfl rfl rfl rfl) rfl rfl rfl rfl (k1) rfl ?_ | refine Ops.call eF rfl rfl (by first | exact Want.no rfl | exact Want.tT rfl rfl rfl rfl | exact Want.fF rfl rfl rfl rfl) rfl rfl rfl rfl (k2) rfl ?_ | refine Ops.call eF rfl rfl (by first | exact Want.no rfl | exact Want.tT rfl rfl rfl rfl | exact Want.fF rfl rfl rfl rfl) rfl rfl rfl rfl (k3) rfl ?_ | refine Ops.call eF rfl rfl (by first | exact Want.no rfl | exact Want.tT rfl rfl rfl rfl | exact Want.fF rfl rfl rfl rfl) rfl rfl rfl rfl (k4) rfl ?_ | refine Go.condT rfl ?_ | refine Go.condNt rfl (fun _ => ?_) (fun _ => ?_) | refine Go.skip ?_ | refine Go.retF rfl ?_ rfl
  all_goals first | rfl | (exfalso; omega)
theorem k5n (a b : List Fa) (ha : FasB a) (hb : FasB b) (h : ¬ (AllP a ∧ AllP b)) : KOk cF 5 [fasA a, fasA b] (.tup [fasA [], fasA [], .int .i64 60]) := by
  have k1 := k8 a ha
  have k2 := k8 b hb
  by_cases pa : AllP a
  · have pb : ¬ AllP b := fun q => h ⟨pa, q⟩
    rw [bd_of pa] at k1
    rw [bd_no pb] at k2
    have k1 : KOk cF 8 [fasA a] (.int .i64 0) := k1
    have k2 : KOk cF 8 [fasA b] (.int .i64 60) := k2
    refine KOk.of cF_ok eF.g Try.func5 rfl (Nat.le_of_ble_eq_true rfl) fun w F => ?_
    repeat' first | refine Go.seq ?_ | refine Go.region rfl ?_ | refine Ops.nil ?_ | refine Ops.weakAt eF 4 rfl rfl (by first | exact Want.no rfl | exact Want.tT rfl rfl rfl rfl | exact Want.fF rfl rfl rfl rfl) (Hop.assign rfl rfl) (weak_nil 6) ?_ | refine Ops.weakAt eF 5 rfl rfl (by first | exact Want.no rfl | exact Want.tT rfl rfl rfl rfl | exact Want.fF rfl rfl rfl rfl) (Hop.assign rfl rfl) (weak_nil 6) ?_ | refine Ops.val eF rfl rfl (by first | exact Want.no rfl | exact Want.tT rfl rfl rfl rfl | exact Want.fF rfl rfl rfl rfl) (by first | exact Hop.move rfl rfl | exact Hop.assign rfl rfl | exact Hop.pickT rfl rfl rfl | exact Hop.pickF rfl rfl rfl | exact Hop.neq rfl rfl rfl) ?_ | refine Ops.skip rfl rfl (by first | exact Want.fT rfl rfl rfl rfl | exact Want.tF rfl rfl rfl rfl | exact Want.und rfl rfl rfl rfl) ?_ | refine Ops.gN rfl rfl (fun _ => ?_) (fun _ => ?_) | refine Ops.call eF rfl rfl (by first | exact Want.no rfl | exact Want.tT rfl rfl rfl rfl | exact Want.fF rfl rfl rfl rfl) rfl rfl rfl rfl (k1) rfl ?_ | refine Ops.call eF rfl rfl (by first | exact Want.no rfl | exact Want.tT rfl rfl rfl rfl | exact Want.fF rfl rfl rfl rfl) rfl rfl rfl rfl (k2) rfl ?_ | refine Go.condT rfl ?_ | refine Go.condNt rfl (fun _ => ?_) (fun _ => ?_) | refine Go.skip ?_ | refine Go.retF rfl ?_ rfl
    all_goals first | rfl | (exfalso; omega)
  · rw [bd_no pa] at k1
    have k1 : KOk cF 8 [fasA a] (.int .i64 60) := k1
    refine KOk.of cF_ok eF.g Try.func5 rfl (Nat.le_of_ble_eq_true rfl) fun w F => ?_
    repeat' first | refine Go.seq ?_ | refine Go.region rfl ?_ | refine Ops.nil ?_ | refine Ops.weakAt eF 4 rfl rfl (by first | exact Want.no rfl | exact Want.tT rfl rfl rfl rfl | exact Want.fF rfl rfl rfl rfl) (Hop.assign rfl rfl) (weak_nil 6) ?_ | refine Ops.weakAt eF 5 rfl rfl (by first | exact Want.no rfl | exact Want.tT rfl rfl rfl rfl | exact Want.fF rfl rfl rfl rfl) (Hop.assign rfl rfl) (weak_nil 6) ?_ | refine Ops.val eF rfl rfl (by first | exact Want.no rfl | exact Want.tT rfl rfl rfl rfl | exact Want.fF rfl rfl rfl rfl) (by first | exact Hop.move rfl rfl | exact Hop.assign rfl rfl | exact Hop.pickT rfl rfl rfl | exact Hop.pickF rfl rfl rfl | exact Hop.neq rfl rfl rfl) ?_ | refine Ops.skip rfl rfl (by first | exact Want.fT rfl rfl rfl rfl | exact Want.tF rfl rfl rfl rfl | exact Want.und rfl rfl rfl rfl) ?_ | refine Ops.gN rfl rfl (fun _ => ?_) (fun _ => ?_) | refine Ops.call eF rfl rfl (by first | exact Want.no rfl | exact Want.tT rfl rfl rfl rfl | exact Want.fF rfl rfl rfl rfl) rfl rfl rfl rfl (k1) rfl ?_ | refine Ops.call eF rfl rfl (by first | exact Want.no rfl | exact Want.tT rfl rfl rfl rfl | exact Want.fF rfl rfl rfl rfl) rfl rfl rfl rfl (k2) rfl ?_ | refine Go.condT rfl ?_ | refine Go.condNt rfl (fun _ => ?_) (fun _ => ?_) | refine Go.skip ?_ | refine Go.retF rfl ?_ rfl
    all_goals first | rfl | (exfalso; omega)
theorem k6 (a b : List Fa) (ha : FasB a) (hb : FasB b) (pa : AllP a) (pb : AllP b) : KOk cF 6 [fasA a, fasA b] (.tup [fasA (leftN (less2 a) b b.length), fasA (leftN (less2 b) a a.length), .int .i64 0]) := by
  have k1 := k10 a ha
  have k2 := k10 b hb
  rw [bd_of pa] at k1
  rw [bd_of pb] at k2
  have k3 := k11 b a hb ha pb (fun f => findL_of set_nil f fun j hj => (pa j hj).1.2.2)
  have k4 := k11 a b ha hb pa (fun f => findL_of set_nil f fun j hj => (pb j hj).1.2.2)
  refine KOk.of cF_ok eF.g Try.func6 rfl (Nat.le_of_ble_eq_true rfl) fun w F => ?_
  repeat' first | refine Go.seq ?_ | refine Go.region rfl ?_ | refine Ops.nil ?_ | refine Ops.val eF rfl rfl (by first | exact Want.no rfl | exact Want.tT rfl rfl rfl rfl | exact Want.fF rfl rfl rfl rfl) (by first | exact Hop.move rfl rfl | exact Hop.assign rfl rfl | exact Hop.pickF rfl rfl rfl | exact Hop.not rfl rfl) ?_ | refine Ops.call eF rfl rfl (by first | exact Want.no rfl | exact Want.tT rfl rfl rfl rfl | exact Want.fF rfl rfl rfl rfl) rfl rfl rfl rfl (k1) rfl ?_ | refine Ops.call eF rfl rfl (by first | exact Want.no rfl | exact Want.tT rfl rfl rfl rfl | exact Want.fF rfl rfl rfl rfl) rfl rfl rfl rfl (k2) rfl ?_ | refine Ops.call eF rfl rfl (by first | exact Want.no rfl | exact Want.tT rfl rfl rfl rfl | exact Want.fF rfl rfl rfl rfl) rfl rfl rfl rfl (k3) rfl ?_ | refine Ops.call eF rfl rfl (by first | exact Want.no rfl | exact Want.tT rfl rfl rfl rfl | exact Want.fF rfl rfl rfl rfl) rfl rfl rfl rfl (k4) rfl ?_ | refine Go.condF rfl ?_ | refine Go.skip ?_ | refine Go.retF rfl ?_ rfl
  all_goals first | rfl | (exfalso; omega)
theorem k6n (a b : List Fa) (ha : FasB a) (hb : FasB b) (h : ¬ (AllP a ∧ AllP b)) : KOk cF 6 [fasA a, fasA b] (.tup [fasA [], fasA [], .int .i64 60]) := by
  have k1 := k10 a ha
  have k2 := k10 b hb
  by_cases pa : AllP a
  · have pb : ¬ AllP b := fun q => h ⟨pa, q⟩
    rw [bd_of pa] at k1
    rw [bd_no pb] at k2
    refine KOk.of cF_ok eF.g Try.func6 rfl (Nat.le_of_ble_eq_true rfl) fun w F => ?_
    repeat' first | refine Go.seq ?_ | refine Go.region rfl ?_ | refine Ops.nil ?_ | refine Ops.weakAt eF 4 rfl rfl (by first | exact Want.no rfl | exact Want.tT rfl rfl rfl rfl | exact Want.fF rfl rfl rfl rfl) (Hop.assign rfl rfl) (weak_nil 6) ?_ | refine Ops.weakAt eF 5 rfl rfl (by first | exact Want.no rfl | exact Want.tT rfl rfl rfl rfl | exact Want.fF rfl rfl rfl rfl) (Hop.assign rfl rfl) (weak_nil 6) ?_ | refine Ops.val eF rfl rfl (by first | exact Want.no rfl | exact Want.tT rfl rfl rfl rfl | exact Want.fF rfl rfl rfl rfl) (by first | exact Hop.move rfl rfl | exact Hop.assign rfl rfl | exact Hop.pickF rfl rfl rfl | exact Hop.not rfl rfl) ?_ | refine Ops.call eF rfl rfl (by first | exact Want.no rfl | exact Want.tT rfl rfl rfl rfl | exact Want.fF rfl rfl rfl rfl) rfl rfl rfl rfl (k1) rfl ?_ | refine Ops.call eF rfl rfl (by first | exact Want.no rfl | exact Want.tT rfl rfl rfl rfl | exact Want.fF rfl rfl rfl rfl) rfl rfl rfl rfl (k2) rfl ?_ | refine Go.condT rfl ?_ | refine Go.retF rfl ?_ rfl
    all_goals first | rfl | (exfalso; omega)
  · rw [bd_no pa] at k1
    refine KOk.of cF_ok eF.g Try.func6 rfl (Nat.le_of_ble_eq_true rfl) fun w F => ?_
    repeat' first | refine Go.seq ?_ | refine Go.region rfl ?_ | refine Ops.nil ?_ | refine Ops.weakAt eF 4 rfl rfl (by first | exact Want.no rfl | exact Want.tT rfl rfl rfl rfl | exact Want.fF rfl rfl rfl rfl) (Hop.assign rfl rfl) (weak_nil 6) ?_ | refine Ops.weakAt eF 5 rfl rfl (by first | exact Want.no rfl | exact Want.tT rfl rfl rfl rfl | exact Want.fF rfl rfl rfl rfl) (Hop.assign rfl rfl) (weak_nil 6) ?_ | refine Ops.val eF rfl rfl (by first | exact Want.no rfl | exact Want.tT rfl rfl rfl rfl | exact Want.fF rfl rfl rfl rfl) (by first | exact Hop.move rfl rfl | exact Hop.assign rfl rfl | exact Hop.pickT rfl rfl rfl | exact Hop.not rfl rfl) ?_ | refine Ops.skip rfl rfl (by first | exact Want.fT rfl rfl rfl rfl | exact Want.tF rfl rfl rfl rfl | exact Want.und rfl rfl rfl rfl) ?_ | refine Ops.call eF rfl rfl (by first | exact Want.no rfl | exact Want.tT rfl rfl rfl rfl | exact Want.fF rfl rfl rfl rfl) rfl rfl rfl rfl (k1) rfl ?_ | refine Ops.call eF rfl rfl (by first | exact Want.no rfl | exact Want.tT rfl rfl rfl rfl | exact Want.fF rfl rfl rfl rfl) rfl rfl rfl rfl (k2) rfl ?_ | refine Go.condT rfl ?_ | refine Go.retF rfl ?_ rfl
    all_goals first | rfl | (exfalso; omega)
theorem meetL_len : ∀ (n : Nat) (a b : List Sp), a.length + b.length ≤ n → (meetL a b).length ≤ a.length + b.length
  | n, [], b, _ => by rw [meetL_0 (.inl rfl)]; simp
  | n, s :: a, [], _ => by rw [meetL_0 (.inr rfl)]; simp
  | 0, s :: a, t :: b, h => by simp at h
  | n + 1, s :: a, t :: b, h => by
    rw [meetL.eq_1 s a t b, List.length_append]
    simp only [List.length_cons] at h ⊢
    have h1 : (if max s.a t.a < min s.b t.b then [(⟨max s.a t.a, min s.b t.b⟩ : Sp)] else []).length ≤ 1 := by split <;> simp
    by_cases q : s.b < t.b
    · rw [if_pos q]
      have := meetL_len n a (t :: b) (by simp only [List.length_cons]; omega)
      simp only [List.length_cons] at this
      omega
    · rw [if_neg q]
      have := meetL_len n (s :: a) b (by simp only [List.length_cons]; omega)
      simp only [List.length_cons] at this
      omega
/-- small -/
def Sml (l : List Fa) : Prop := l.length ≤ 3000 ∧ ∀ i, (l.getD i default).v.s.length ≤ 3000 ∧ (l.getD i default).l.length ≤ 3000
theorem sml_B {l : List Fa} (h : Sml l) : FasB l := ⟨by have := h.1; omega, fun i => ⟨by have := (h.2 i).1; omega, by have := (h.2 i).2; omega⟩⟩
theorem sumN_part {l : List Fa} : ∀ {n i : Nat}, i < n → n ≤ l.length → (l.getD i default).v.s.length + (l.getD i default).l.length ≤ sumN l n
  | n + 1, i, h, hn => by
    simp only [sumN]
    rcases lt_succ_cases h with q | rfl
    · have := sumN_part (l := l) q (by omega); omega
    · omega
theorem sumN_len (l : List Fa) : ∀ n, n ≤ sumN l n
  | 0 => by simp [sumN]
  | n + 1 => by have := sumN_len l n; simp only [sumN]; omega
theorem sml_of {l : List Fa} (h : ¬ 3000 < sumN l l.length) : Sml l := by
  refine ⟨by have := sumN_len l l.length; omega, fun i => ?_⟩
  by_cases q : i < l.length
  · have := sumN_part (l := l) q (Nat.le_refl _); omega
  · have e : l.getD i default = default := by
      rw [List.getD_eq_getElem?_getD, List.getElem?_eq_none (by omega)]; rfl
    rw [e]
    exact ⟨Nat.zero_le _, Nat.zero_le _⟩
theorem left_FaB {D : Fa → List Sp} {a : List Fa} (h : ∀ i, FaB { (a.getD i default) with l := D (a.getD i default) }) : ∀ i, ∀ x ∈ leftN D a i, FaB x
  | 0, x, hx => by simp [leftN] at hx
  | i + 1, x, hx => by
    unfold leftN at hx
    split at hx
    · rw [List.mem_append] at hx
      rcases hx with hx | hx
      · exact left_FaB h i x hx
      · simp only [List.mem_singleton] at hx
        rw [hx]; exact h i
    · exact left_FaB h i x hx
theorem getD_FaB {l : List Fa} (h : ∀ x ∈ l, FaB x) (i : Nat) : FaB (l.getD i default) := by
  rw [List.getD_eq_getElem?_getD]
  by_cases q : i < l.length
  · rw [List.getElem?_eq_getElem q]; exact h _ (List.getElem_mem q)
  · rw [List.getElem?_eq_none (by omega)]
    exact ⟨Nat.zero_le _, Nat.zero_le _⟩
theorem left_B {a b : List Fa} (ha : Sml a) (hb : Sml b) : FasB (leftN (less1 b) a a.length) := by
  refine ⟨by have := leftN_len (less1 b) a a.length; have := ha.1; omega, getD_FaB (left_FaB (fun i => ?_) _)⟩
  refine ⟨by have := (ha.2 i).1; show (a.getD i default).v.s.length ≤ _; omega, ?_⟩
  show (less1 b (a.getD i default)).length ≤ 10000
  unfold less1
  have h1 := meetL_len _ (a.getD i default).l (restL (findB b (keyF (a.getD i default)))) (Nat.le_refl _)
  have h2 := restL_len (findB b (keyF (a.getD i default)))
  have h3 : (findB b (keyF (a.getD i default))).length ≤ 3000 := by
    unfold findB
    cases bd (firstG b (keyF (a.getD i default)) < b.length ∧ cmpFa (b.getD (firstG b (keyF (a.getD i default))) default) (keyF (a.getD i default)) = 0)
    · exact Nat.zero_le _
    · exact (hb.2 _).2
  have h4 := (ha.2 i).2
  omega
/-- THE LAW -/
theorem k3 (a b : List Fa) (ha : InB a) (hb : InB b) (ra : RngF a) (rb : RngF b) : KOk cF 3 [fasA a, fasA b] (.bool true) := by
  have g1 := k4 a ha
  have g2 := k4 b hb
  by_cases qa : 3000 < sumN a a.length
  · rw [show greatI a = 1 from if_pos qa] at g1
    refine KOk.of cF_ok eF.g Try.func3 rfl (Nat.le_of_ble_eq_true rfl) fun w F => ?_
    repeat' first | refine Go.seq ?_ | refine Go.region rfl ?_ | refine Ops.nil ?_ | refine Ops.val eF rfl rfl (by first | exact Want.no rfl | exact Want.tT rfl rfl rfl rfl | exact Want.fF rfl rfl rfl rfl) (by first | exact Hop.move rfl rfl | exact Hop.assign rfl rfl | exact Hop.pickT rfl rfl rfl | exact Hop.gtr rfl rfl rfl) ?_ | refine Ops.skip rfl rfl (by first | exact Want.fT rfl rfl rfl rfl | exact Want.tF rfl rfl rfl rfl | exact Want.und rfl rfl rfl rfl) ?_ | refine Ops.gT rfl rfl (by first | assumption | decide) ?_ | refine Ops.call eF rfl rfl (by first | exact Want.no rfl | exact Want.tT rfl rfl rfl rfl | exact Want.fF rfl rfl rfl rfl) rfl rfl rfl rfl (g1) rfl ?_ | refine Go.condT rfl ?_ | refine Go.retF rfl ?_ rfl
    all_goals first | rfl | (exfalso; omega)
  rw [show greatI a = 0 from if_neg qa] at g1
  by_cases qb : 3000 < sumN b b.length
  · rw [show greatI b = 1 from if_pos qb] at g2
    refine KOk.of cF_ok eF.g Try.func3 rfl (Nat.le_of_ble_eq_true rfl) fun w F => ?_
    repeat' first | refine Go.seq ?_ | refine Go.region rfl ?_ | refine Ops.nil ?_ | refine Ops.val eF rfl rfl (by first | exact Want.no rfl | exact Want.tT rfl rfl rfl rfl | exact Want.fF rfl rfl rfl rfl) (by first | exact Hop.move rfl rfl | exact Hop.assign rfl rfl | exact Hop.pickF rfl rfl rfl | exact Hop.gtr rfl rfl rfl) ?_ | refine Ops.gF rfl rfl (by first | assumption | decide) ?_ | refine Ops.call eF rfl rfl (by first | exact Want.no rfl | exact Want.tT rfl rfl rfl rfl | exact Want.fF rfl rfl rfl rfl) rfl rfl rfl rfl (g1) rfl ?_ | refine Ops.call eF rfl rfl (by first | exact Want.no rfl | exact Want.tT rfl rfl rfl rfl | exact Want.fF rfl rfl rfl rfl) rfl rfl rfl rfl (g2) rfl ?_ | refine Go.condTt rfl (by first | assumption | decide) ?_ | refine Go.retF rfl ?_ rfl
    all_goals first | rfl | (exfalso; omega)
  rw [show greatI b = 0 from if_neg qb] at g2
  have sa := sml_of qa
  have sb := sml_of qb
  by_cases hp : AllP a ∧ AllP b
  · have e1 := less_same hp.1 hp.2 ra rb
    have e2 := less_same hp.2 hp.1 rb ra
    have h5 := k5 a b (sml_B sa) (sml_B sb) hp.1 hp.2
    have h6 := k6 a b (sml_B sa) (sml_B sb) hp.1 hp.2
    rw [← e1, ← e2] at h6
    have b1 := left_B sa sb
    have b2 := left_B sb sa
    generalize leftN (less1 a) b b.length = x at *
    generalize leftN (less1 b) a a.length = y at *
    have h7 := k7 x x b2 b2
    have h8 := k7 y y b1 b1
    rw [bd_of rfl] at h7 h8
    refine KOk.of cF_ok eF.g Try.func3 rfl (Nat.le_of_ble_eq_true rfl) fun w F => ?_
    repeat' first | refine Go.seq ?_ | refine Go.region rfl ?_ | refine Ops.nil ?_ | refine Ops.val eF rfl rfl (by first | exact Want.no rfl | exact Want.tT rfl rfl rfl rfl | exact Want.fF rfl rfl rfl rfl) (by first | exact Hop.move rfl rfl | exact Hop.assign rfl rfl | exact Hop.pickT rfl rfl rfl | exact Hop.pickF rfl rfl rfl | exact Hop.gtr rfl rfl rfl | exact Hop.eql rfl rfl rfl | exact Hop.extract rfl rfl rfl) ?_ | refine Ops.gF rfl rfl (by first | assumption | decide) ?_ | refine Ops.call eF rfl rfl (by first | exact Want.no rfl | exact Want.tT rfl rfl rfl rfl | exact Want.fF rfl rfl rfl rfl) rfl rfl rfl rfl (g1) rfl ?_ | refine Ops.call eF rfl rfl (by first | exact Want.no rfl | exact Want.tT rfl rfl rfl rfl | exact Want.fF rfl rfl rfl rfl) rfl rfl rfl rfl (g2) rfl ?_ | refine Ops.call eF rfl rfl (by first | exact Want.no rfl | exact Want.tT rfl rfl rfl rfl | exact Want.fF rfl rfl rfl rfl) rfl rfl rfl rfl (h5) rfl ?_ | refine Ops.call eF rfl rfl (by first | exact Want.no rfl | exact Want.tT rfl rfl rfl rfl | exact Want.fF rfl rfl rfl rfl) rfl rfl rfl rfl (h6) rfl ?_ | refine Ops.call eF rfl rfl (by first | exact Want.no rfl | exact Want.tT rfl rfl rfl rfl | exact Want.fF rfl rfl rfl rfl) rfl rfl rfl rfl (h7) rfl ?_ | refine Ops.call eF rfl rfl (by first | exact Want.no rfl | exact Want.tT rfl rfl rfl rfl | exact Want.fF rfl rfl rfl rfl) rfl rfl rfl rfl (h8) rfl ?_ | refine Go.condFt rfl (by first | assumption | decide) ?_ | refine Go.skip ?_ | refine Go.retF rfl ?_ rfl
    all_goals first | rfl | (exfalso; omega) | (rw [bd_of rfl]; rfl)
  · have h5 := k5n a b (sml_B sa) (sml_B sb) hp
    have h6 := k6n a b (sml_B sa) (sml_B sb) hp
    have fn : FasB [] := ⟨Nat.zero_le _, fun i => ⟨Nat.zero_le _, Nat.zero_le _⟩⟩
    have h7 := k7 [] [] fn fn
    rw [bd_of rfl] at h7
    refine KOk.of cF_ok eF.g Try.func3 rfl (Nat.le_of_ble_eq_true rfl) fun w F => ?_
    repeat' first | refine Go.seq ?_ | refine Go.region rfl ?_ | refine Ops.nil ?_ | refine Ops.val eF rfl rfl (by first | exact Want.no rfl | exact Want.tT rfl rfl rfl rfl | exact Want.fF rfl rfl rfl rfl) (by first | exact Hop.move rfl rfl | exact Hop.assign rfl rfl | exact Hop.pickT rfl rfl rfl | exact Hop.pickF rfl rfl rfl | exact Hop.gtr rfl rfl rfl | exact Hop.eql rfl rfl rfl | exact Hop.extract rfl rfl rfl) ?_ | refine Ops.gF rfl rfl (by first | assumption | decide) ?_ | refine Ops.call eF rfl rfl (by first | exact Want.no rfl | exact Want.tT rfl rfl rfl rfl | exact Want.fF rfl rfl rfl rfl) rfl rfl rfl rfl (g1) rfl ?_ | refine Ops.call eF rfl rfl (by first | exact Want.no rfl | exact Want.tT rfl rfl rfl rfl | exact Want.fF rfl rfl rfl rfl) rfl rfl rfl rfl (g2) rfl ?_ | refine Ops.call eF rfl rfl (by first | exact Want.no rfl | exact Want.tT rfl rfl rfl rfl | exact Want.fF rfl rfl rfl rfl) rfl rfl rfl rfl (h5) rfl ?_ | refine Ops.call eF rfl rfl (by first | exact Want.no rfl | exact Want.tT rfl rfl rfl rfl | exact Want.fF rfl rfl rfl rfl) rfl rfl rfl rfl (h6) rfl ?_ | refine Ops.call eF rfl rfl (by first | exact Want.no rfl | exact Want.tT rfl rfl rfl rfl | exact Want.fF rfl rfl rfl rfl) rfl rfl rfl rfl (h7) rfl ?_ | refine Go.condFt rfl (by first | assumption | decide) ?_ | refine Go.skip ?_ | refine Go.retF rfl ?_ rfl
    all_goals first | rfl | (exfalso; omega) | (rw [bd_of rfl]; rfl)
end Go.Px.Fb
end
/- PxTt -/
section
set_option linter.unusedVariables false
namespace Go.Px
open Go.Deep Go.ChangeShapes Go.WideShapes
/-- a world's blocks, as they are -/
def held0 (W : World) (B : Nat) : List Value := match W.heap[B]? with
  | some (.cells c _ _) => c.toList
  | _ => []
theorem held0_at {W : World} {B j : Nat} {x : Value} : (held0 W B)[j]? = some x ↔ W.cell? ⟨B, j, none⟩ = some x := by
  unfold held0 World.cell?
  split
  · rename_i c t f e
    simp [e]
  · rename_i e
    constructor
    · intro h; simp at h
    · intro h
      split at h
      · rename_i c t f e2; exact absurd e2 (e c t f)
      · cases h
theorem held0_fz (W : World) : FzW (held0 W) W := fun B j x h => held0_at.1 h
theorem read_slice {H : Type} {enc : TypeId × Value → H} {P : Program} {W : World} {α : Type} [Inhabited α] {en : α → List AV} {z : Nat} (hz : 0 < z) (hen : ∀ a, (en a).length = z) {t e : TypeId} (ht : P.underlying t = some (.slice e)) (hc : P.cellsOf e = z) {Q : α → DataW H → Prop}
    (hel : ∀ n cs y, DataW.trod enc P W 0 (fun _ => true) true n e cs = some y → ∃ x, VRs (fzm (held0 W)) (en x) cs ∧ Q x y.1)
    {n : Nat} {v : Value} {y : DataW H × List MemPlace} (h : DataW.trod enc P W 0 (fun _ => true) true n t [v] = some y) :
    ∃ l : List α, VR (fzm (held0 W)) (dsl z en l) v ∧ ((l = [] ∧ y.1 = .nil) ∨ ∃ els sp, y.1 = .slice els sp ∧ els.length = l.length ∧ ∀ i, i < l.length → ∃ d ∈ els, Q (l.getD i default) d) := by
  rcases open_slice ht h with ⟨hv, rfl⟩ | ⟨a, len, cap, m, k, D, Pl, hv, hb, hl, hm, hmm, rfl, hx⟩
  · have hv : v = .slice none 0 0 := by simpa using hv
    subst hv
    exact ⟨[], by simp [dsl, VR], .inl ⟨rfl, rfl⟩⟩
  · have hv : v = .slice (some a) len cap := by simpa using hv
    subst hv
    rw [hc] at hx
    have hlm : len ≤ m := by rw [hmm]; split <;> omega
    obtain ⟨f, hf⟩ := choose_lt (α := α) (n := len) (p := fun i x => ∃ cs, W.cells? 0 (a.add (i * z)) z = some cs ∧ VRs (fzm (held0 W)) (en x) cs ∧ Q x (D i)) (fun i hi => by
      obtain ⟨cs', h1, h2⟩ := hx i (by omega)
      obtain ⟨x, x1, x2⟩ := hel _ _ _ h2
      exact ⟨x, cs', h1, x1, x2⟩)
    have hlen : ((List.range len).map f).length = len := by simp
    refine ⟨(List.range len).map f, ?_, .inr ⟨_, _, rfl, by simp, fun i hi => ?_⟩⟩
    · unfold dsl
      rw [hlen]
      simp only [VR]
      refine ⟨by rw [flat_len hen, hlen], ?_⟩
      by_cases h0 : len = 0
      · exact .inl ⟨h0, .inr ⟨a, cap, by rw [h0]⟩⟩
      · right
        obtain ⟨B, o, spot⟩ := a
        have hspot : spot = none := by
          obtain ⟨cs, c1, c2, _⟩ := hf 0 (by omega)
          obtain ⟨_, q2, q3⟩ := World.cells?_some c1
          have q4 := q3 0 hz
          rw [List.getElem?_eq_getElem (by omega)] at q4
          simpa [Addr.add] using World.cell?_spot q4
        subst hspot
        refine ⟨B, o, cap, ((held0 W B).drop o).take (len * z), rfl, hl, ?_, fun j x hj => ?_⟩
        · have key : ∀ k, k ≤ len → VRs (fzm (held0 W)) (((List.range k).map f).flatMap en) (((held0 W B).drop o).take (k * z)) := by
            intro k
            induction k with
            | zero => intro _; simp [VRs]
            | succ k ih =>
              intro hk
              have h1 := ih (by omega)
              obtain ⟨cs, c1, c2, _⟩ := hf k (by omega)
              obtain ⟨_, q2, q3⟩ := World.cells?_some c1
              have e : ((held0 W B).drop o).take ((k + 1) * z) = ((held0 W B).drop o).take (k * z) ++ cs := by
                rw [Nat.succ_mul, List.take_add]
                congr 1
                apply List.ext_getElem?
                intro r
                rw [List.drop_drop, List.getElem?_take]
                by_cases hr : r < z
                · rw [if_pos hr, List.getElem?_drop]
                  have q4 := q3 r hr
                  rw [List.getElem?_eq_getElem (show r < cs.length by omega)] at q4 ⊢
                  rw [add_plain, add_plain] at q4
                  have := held0_at.2 q4
                  rw [← this]
                · rw [if_neg hr, List.getElem?_eq_none (by omega)]
              rw [List.range_succ, List.map_append, List.flatMap_append, e]
              refine h1.append ?_
              simpa using c2
          exact key len (Nat.le_refl _)
        · rw [List.getElem?_take] at hj
          split at hj
          · rw [List.getElem?_drop] at hj
            exact hj
          · cases hj
    · have hi' : i < len := by omega
      obtain ⟨cs, _, _, q⟩ := hf i hi'
      refine ⟨D i, List.mem_map.2 ⟨i, List.mem_range.2 hi', rfl⟩, ?_⟩
      rw [List.getD_eq_getElem?_getD]
      simpa [hi'] using q
/-- a text that came in -/
theorem read_str (ρ : Map) (s : ByteArray) : VR ρ (sA s.data.toList) (.string s) := by
  unfold sA
  simp only [VR, bs]
  congr 1
  obtain ⟨⟨l⟩⟩ := s
  simp [List.map_map, Function.comp_def]
/-! ## it reads as before -/
theorem trodAll_carry {H : Type} {enc : TypeId × Value → H} {P : Program} {w w' : World} {base : Nat} {sp : Nat → Bool} {hd : Bool} : ∀ {ts : List TypeId} {vs : List Value} {ds : List (DataW H)} {ps : List MemPlace}, DataW.TrodAll enc P w base sp hd ts vs ds ps → (∀ p ∈ ps, w.sameAt w' p) → DataW.TrodAll enc P w' base sp hd ts vs ds ps
  | [], [], [], _, h, _ => h
  | _ :: _, _ :: _, _ :: _, _, ⟨p, q, ⟨n, h1⟩, h2, e⟩, hs => ⟨p, q, ⟨n, DataW.trod_carry n _ _ _ h1 fun x hx => hs x (by rw [e]; exact List.mem_append_left _ hx)⟩, trodAll_carry h2 (fun x hx => hs x (by rw [e]; exact List.mem_append_right _ hx)), e⟩
theorem ext_same {w w' : World} (h : ExtW w w') {p : MemPlace} (hp : p.block < w.heap.size) : w.sameAt w' p := by
  cases p with
  | cell b off =>
    show w'.cell? ⟨b, off, none⟩ = w.cell? ⟨b, off, none⟩
    unfold World.cell?
    rw [h.2 b hp]
  | map b => exact h.2 b hp
theorem ext_kept {w w' : World} (h : ExtW w w') (may : MemPlace → Prop) : w.keptBut w' may := by
  refine ⟨h.1.os, h.1.output, fun i hi => ?_⟩
  rw [h.2 i hi]
  cases w.heap[i]? with
  | none => rfl
  | some b => cases b <;> first | rfl | exact ⟨rfl, rfl, rfl, fun _ _ => rfl⟩ | exact .inr ⟨rfl, rfl⟩
/-- a contract, as a call -/
theorem KOk.calls {c : Ctx} (k : CtxOk c) {f : FuncId} {fn : Func} (hf : c.P.funcs[f]? = some fn) (hb : fn.body.isSome = true) {args : List AV} {v : AV} (hk : KOk c f args v) {W : World} {A : List Value} (hA : VRs (fzm (held0 W)) args A) : Calls c.P f A.toArray W fun e W' => ∃ z, e = .returned z ∧ ExtW W W' ∧ ∃ ρ, VR ρ v z := by
  obtain ⟨nx, w1, q1, q2⟩ := hk (held0 W) W A (held0_fz W) hA
  obtain ⟨bd, hbd⟩ := Option.isSome_iff_exists.1 hb
  have hnm : fn.name ≠ "runtime.NumGoroutine" := by simpa using k.names f fn hf
  have hcall : (callFunc f A.toArray).run c.P W = .ok (.enter f A.toArray) W := by simp [callFunc, hf, hnm, hbd]
  rw [hcall] at q1
  cases q1
  have q3 : CallsIn Fence.wide 0 c.P f A.toArray W (EndR _) := q2
  refine (callsIn_wide.1 q3).mono fun e w' r => ?_
  cases e with
  | returned z =>
    obtain ⟨g, F', _, _, _, hv⟩ := r
    exact ⟨z, rfl, g, fzm F', hv⟩
  | panicked ch => exact r.elim
  | outgrown => exact r.elim
end Go.Px
end
