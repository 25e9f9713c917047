/- Parts of the proof in YthlbnmohaeeccaaFin: FsU, FsX, PxTt, PxTu, PxTv, FsAl, FsY. -/
import Derived.Test.YthlbnmohaeeccaaK4
import Derived.Deep.Slices
import Derived.ReadAgain
/- FsU -/
section
set_option linter.unusedVariables false
set_option linter.unusedSimpArgs false
set_option maxHeartbeats 4000000
set_option maxRecDepth 20000
namespace Go.Px.Fs
open Go.Proofs
attribute [local irreducible] Go.Px.KOk
theorem k5 (a b : List Fa) (ha : FasB a) (hb : FasB b) (pa : AllP a) (pb : AllP b) : KOk cF 21 [fasA a, fasA b] (.tup [fasA (leftN (less1 a) b b.length), fasA (leftN (less1 b) a a.length), .int .i64 0]) := by
  have k1 := k8 a ha
  have k2 := k8 b hb
  rw [bd_of pa] at k1
  rw [bd_of pb] at k2
  have k1 : KOk cF 43 [fasA a] (.int .i64 0) := k1
  have k2 : KOk cF 43 [fasA b] (.int .i64 0) := k2
  have k3 := k9 b a hb ha pb pa (all_mono pa) (fun f => by rw [findB_L pa]; exact findL_of set_nil f fun j hj => (pa j hj).1.2.2)
  have k4 := k9 a b ha hb pa pb (all_mono pb) (fun f => by rw [findB_L pb]; exact findL_of set_nil f fun j hj => (pb j hj).1.2.2)
  refine KOk.of cF_ok eF.g Try.func21 rfl (Nat.le_of_ble_eq_true rfl) fun w F => ?_
  repeat' first | refine Go.seq ?_ | refine Go.region rfl ?_ | refine Ops.nil ?_ | refine Ops.val eF rfl rfl (by first | exact Want.no rfl | exact Want.tT rfl rfl rfl rfl | exact Want.fF rfl rfl rfl rfl) (by first | exact Hop.move rfl rfl | exact Hop.assign rfl rfl | exact Hop.pickT rfl rfl rfl | exact Hop.pickF rfl rfl rfl | exact Hop.neq rfl rfl rfl) ?_ | refine Ops.skip rfl rfl (by first | exact Want.fT rfl rfl rfl rfl | exact Want.tF rfl rfl rfl rfl | exact Want.und rfl rfl rfl rfl) ?_ | refine Ops.gN rfl rfl (fun _ => ?_) (fun _ => ?_) | refine Ops.call eF rfl rfl (by first | exact Want.no rfl | exact Want.tT rfl rfl rfl rfl | exact Want.fF rfl rfl rfl rfl) rfl rfl rfl rfl (k1) rfl ?_ | refine Ops.call eF rfl rfl (by first | exact Want.no rfl | exact Want.tT rfl rfl rfl rfl | exact Want.fF rfl rfl rfl rfl) rfl rfl rfl rfl (k2) rfl ?_ | refine Ops.call eF rfl rfl (by first | exact Want.no rfl | exact Want.tT rfl rfl rfl rfl | exact Want.fF rfl rfl rfl rfl) rfl rfl rfl rfl (k3) rfl ?_ | refine Ops.call eF rfl rfl (by first | exact Want.no rfl | exact Want.tT rfl rfl rfl rfl | exact Want.fF rfl rfl rfl rfl) rfl rfl rfl rfl (k4) rfl ?_ | refine Go.condT rfl ?_ | refine Go.condNt rfl (fun _ => ?_) (fun _ => ?_) | refine Go.skip ?_ | refine Go.retF rfl ?_ rfl
  all_goals first | rfl | (exfalso; omega)
theorem k5n (a b : List Fa) (ha : FasB a) (hb : FasB b) (h : ¬ (AllP a ∧ AllP b)) : KOk cF 21 [fasA a, fasA b] (.tup [fasA [], fasA [], .int .i64 60]) := by
  have k1 := k8 a ha
  have k2 := k8 b hb
  by_cases pa : AllP a
  · have pb : ¬ AllP b := fun q => h ⟨pa, q⟩
    rw [bd_of pa] at k1
    rw [bd_no pb] at k2
    have k1 : KOk cF 43 [fasA a] (.int .i64 0) := k1
    have k2 : KOk cF 43 [fasA b] (.int .i64 60) := k2
    refine KOk.of cF_ok eF.g Try.func21 rfl (Nat.le_of_ble_eq_true rfl) fun w F => ?_
    repeat' first | refine Go.seq ?_ | refine Go.region rfl ?_ | refine Ops.nil ?_ | refine Ops.weakAt eF 4 rfl rfl (by first | exact Want.no rfl | exact Want.tT rfl rfl rfl rfl | exact Want.fF rfl rfl rfl rfl) (Hop.assign rfl rfl) (weak_nil 6) ?_ | refine Ops.weakAt eF 5 rfl rfl (by first | exact Want.no rfl | exact Want.tT rfl rfl rfl rfl | exact Want.fF rfl rfl rfl rfl) (Hop.assign rfl rfl) (weak_nil 6) ?_ | refine Ops.val eF rfl rfl (by first | exact Want.no rfl | exact Want.tT rfl rfl rfl rfl | exact Want.fF rfl rfl rfl rfl) (by first | exact Hop.move rfl rfl | exact Hop.assign rfl rfl | exact Hop.pickT rfl rfl rfl | exact Hop.pickF rfl rfl rfl | exact Hop.neq rfl rfl rfl) ?_ | refine Ops.skip rfl rfl (by first | exact Want.fT rfl rfl rfl rfl | exact Want.tF rfl rfl rfl rfl | exact Want.und rfl rfl rfl rfl) ?_ | refine Ops.gN rfl rfl (fun _ => ?_) (fun _ => ?_) | refine Ops.call eF rfl rfl (by first | exact Want.no rfl | exact Want.tT rfl rfl rfl rfl | exact Want.fF rfl rfl rfl rfl) rfl rfl rfl rfl (k1) rfl ?_ | refine Ops.call eF rfl rfl (by first | exact Want.no rfl | exact Want.tT rfl rfl rfl rfl | exact Want.fF rfl rfl rfl rfl) rfl rfl rfl rfl (k2) rfl ?_ | refine Go.condT rfl ?_ | refine Go.condNt rfl (fun _ => ?_) (fun _ => ?_) | refine Go.skip ?_ | refine Go.retF rfl ?_ rfl
    all_goals first | rfl | (exfalso; omega)
  · rw [bd_no pa] at k1
    have k1 : KOk cF 43 [fasA a] (.int .i64 60) := k1
    refine KOk.of cF_ok eF.g Try.func21 rfl (Nat.le_of_ble_eq_true rfl) fun w F => ?_
    repeat' first | refine Go.seq ?_ | refine Go.region rfl ?_ | refine Ops.nil ?_ | refine Ops.weakAt eF 4 rfl rfl (by first | exact Want.no rfl | exact Want.tT rfl rfl rfl rfl | exact Want.fF rfl rfl rfl rfl) (Hop.assign rfl rfl) (weak_nil 6) ?_ | refine Ops.weakAt eF 5 rfl rfl (by first | exact Want.no rfl | exact Want.tT rfl rfl rfl rfl | exact Want.fF rfl rfl rfl rfl) (Hop.assign rfl rfl) (weak_nil 6) ?_ | refine Ops.val eF rfl rfl (by first | exact Want.no rfl | exact Want.tT rfl rfl rfl rfl | exact Want.fF rfl rfl rfl rfl) (by first | exact Hop.move rfl rfl | exact Hop.assign rfl rfl | exact Hop.pickT rfl rfl rfl | exact Hop.pickF rfl rfl rfl | exact Hop.neq rfl rfl rfl) ?_ | refine Ops.skip rfl rfl (by first | exact Want.fT rfl rfl rfl rfl | exact Want.tF rfl rfl rfl rfl | exact Want.und rfl rfl rfl rfl) ?_ | refine Ops.gN rfl rfl (fun _ => ?_) (fun _ => ?_) | refine Ops.call eF rfl rfl (by first | exact Want.no rfl | exact Want.tT rfl rfl rfl rfl | exact Want.fF rfl rfl rfl rfl) rfl rfl rfl rfl (k1) rfl ?_ | refine Ops.call eF rfl rfl (by first | exact Want.no rfl | exact Want.tT rfl rfl rfl rfl | exact Want.fF rfl rfl rfl rfl) rfl rfl rfl rfl (k2) rfl ?_ | refine Go.condT rfl ?_ | refine Go.condNt rfl (fun _ => ?_) (fun _ => ?_) | refine Go.skip ?_ | refine Go.retF rfl ?_ rfl
    all_goals first | rfl | (exfalso; omega)
theorem meetL_len : ∀ (n : Nat) (a b : List Sp), a.length + b.length ≤ n → (meetL a b).length ≤ a.length + b.length
  | n, [], b, _ => by rw [meetL_0 (.inl rfl)]; simp
  | n, s :: a, [], _ => by rw [meetL_0 (.inr rfl)]; simp
  | 0, s :: a, t :: b, h => by simp at h
  | n + 1, s :: a, t :: b, h => by
    rw [meetL.eq_1 s a t b, List.length_append]
    simp only [List.length_cons] at h ⊢
    have h1 : (if max s.a t.a < min s.b t.b then [(⟨max s.a t.a, min s.b t.b⟩ : Sp)] else []).length ≤ 1 := by split <;> simp
    by_cases q : s.b < t.b
    · rw [if_pos q]
      have := meetL_len n a (t :: b) (by simp only [List.length_cons]; omega)
      simp only [List.length_cons] at this
      omega
    · rw [if_neg q]
      have := meetL_len n (s :: a) b (by simp only [List.length_cons]; omega)
      simp only [List.length_cons] at this
      omega
/-- small -/
def Sml (l : List Fa) : Prop := l.length ≤ 3000 ∧ ∀ i, (l.getD i default).v.s.length ≤ 3000 ∧ (l.getD i default).l.length ≤ 3000
theorem sml_B {l : List Fa} (h : Sml l) : FasB l := ⟨by have := h.1; omega, fun i => ⟨by have := (h.2 i).1; omega, by have := (h.2 i).2; omega⟩⟩
theorem sumN_part {l : List Fa} : ∀ {n i : Nat}, i < n → n ≤ l.length → (l.getD i default).v.s.length + (l.getD i default).l.length ≤ sumN l n
  | n + 1, i, h, hn => by
    simp only [sumN]
    rcases lt_succ_cases h with q | rfl
    · have := sumN_part (l := l) q (by omega); omega
    · omega
theorem sumN_len (l : List Fa) : ∀ n, n ≤ sumN l n
  | 0 => by simp [sumN]
  | n + 1 => by have := sumN_len l n; simp only [sumN]; omega
theorem sml_of {l : List Fa} (h : ¬ 3000 < sumN l l.length) : Sml l := by
  refine ⟨by have := sumN_len l l.length; omega, fun i => ?_⟩
  by_cases q : i < l.length
  · have := sumN_part (l := l) q (Nat.le_refl _); omega
  · have e : l.getD i default = default := by
      rw [List.getD_eq_getElem?_getD, List.getElem?_eq_none (by omega)]; rfl
    rw [e]
    exact ⟨Nat.zero_le _, Nat.zero_le _⟩
theorem left_FaB {D : Fa → List Sp} {a : List Fa} (h : ∀ i, FaB { (a.getD i default) with l := D (a.getD i default) }) : ∀ i, ∀ x ∈ leftN D a i, FaB x
  | 0, x, hx => by simp [leftN] at hx
  | i + 1, x, hx => by
    unfold leftN at hx
    split at hx
    · rw [List.mem_append] at hx
      rcases hx with hx | hx
      · exact left_FaB h i x hx
      · simp only [List.mem_singleton] at hx
        rw [hx]; exact h i
    · exact left_FaB h i x hx
theorem getD_FaB {l : List Fa} (h : ∀ x ∈ l, FaB x) (i : Nat) : FaB (l.getD i default) := by
  rw [List.getD_eq_getElem?_getD]
  by_cases q : i < l.length
  · rw [List.getElem?_eq_getElem q]; exact h _ (List.getElem_mem q)
  · rw [List.getElem?_eq_none (by omega)]
    exact ⟨Nat.zero_le _, Nat.zero_le _⟩
theorem left_B {a b : List Fa} (ha : Sml a) (hb : Sml b) : FasB (leftN (less1 b) a a.length) := by
  refine ⟨by have := leftN_len (less1 b) a a.length; have := ha.1; omega, getD_FaB (left_FaB (fun i => ?_) _)⟩
  refine ⟨by have := (ha.2 i).1; show (a.getD i default).v.s.length ≤ _; omega, ?_⟩
  show (less1 b (a.getD i default)).length ≤ 10000
  unfold less1
  have h1 := meetL_len _ (a.getD i default).l (restL (findB b (keyF (a.getD i default)))) (Nat.le_refl _)
  have h2 := restL_len (findB b (keyF (a.getD i default)))
  have h3 : (findB b (keyF (a.getD i default))).length ≤ 3000 := by
    unfold findB
    cases bd (firstG b (keyF (a.getD i default)) < b.length ∧ cmpFa (b.getD (firstG b (keyF (a.getD i default))) default) (keyF (a.getD i default)) = 0)
    · exact Nat.zero_le _
    · exact (hb.2 _).2
  have h4 := (ha.2 i).2
  omega
end Go.Px.Fs
end
/- FsX -/
section
set_option linter.unusedVariables false
namespace Go.Px.Fs
theorem rng_in : ∀ {l : List Sp}, Rng l → ∀ {u : Int}, InR l u → MN ≤ u ∧ u < MX
  | s :: l, h, u, .inl q => by have := h s (by simp); omega
  | s :: l, h, u, .inr q => rng_in (fun t ht => h t (by simp [ht])) q
theorem can_nil {z : Int} {l : List Sp} (h : CanF z l) (hn : ∀ u, ¬ InR l u) : l = [] := by
  cases l with
  | nil => rfl
  | cons s l => exact absurd (.inl ⟨Int.le_refl _, h.2.1⟩ : InR (s :: l) s.a) (hn s.a)
theorem can_rng : ∀ {l : List Sp} {z : Int}, CanF z l → (∀ u, InR l u → MN ≤ u ∧ u < MX) → Rng l
  | [], _, _, _ => fun s hs => by simp at hs
  | s :: l, z, h, hm => fun t ht => by
    rcases List.mem_cons.1 ht with rfl | ht
    · have h1 := hm t.a (.inl ⟨Int.le_refl _, h.2.1⟩)
      have h2 := hm (t.b - 1) (.inl ⟨by have := h.2.1; omega, by omega⟩)
      exact ⟨h1.1, by omega⟩
    · exact can_rng h.2.2 (fun u hu => hm u (.inr hu)) t ht
/-- what is left of a fact's spans -/
theorem less_ok {b : List Fa} {f : Fa} (pb : AllP b) (rb : RngF b) (hf : SetP f.l) (hr : Rng f.l) : (∃ z, CanF z (less1 b f)) ∧ ∀ u, InR (less1 b f) u ↔ InR f.l u ∧ ¬ InR (findL b f) u := by
  unfold less1
  rw [findB_key, findB_L pb]
  have hsb : SetP (findL b f) := findL_of set_nil f fun j hj => (pb j hj).1.2.2
  have hrb : Rng (findL b f) := findL_of (fun s hs => by simp at hs) f rb
  obtain ⟨x, cx⟩ := setP_ex hf
  obtain ⟨⟨y, cy⟩, hr'⟩ := rest_ok hsb hrb
  obtain ⟨c1, m1⟩ := meet_ok _ f.l (restL (findL b f)) x y (Nat.le_refl _) cx cy
  refine ⟨⟨_, c1⟩, fun u => ?_⟩
  rw [m1 u, hr' u]
  constructor
  · rintro ⟨h1, _, _, h2⟩; exact ⟨h1, h2⟩
  · rintro ⟨h1, h2⟩
    have := rng_in hr h1
    exact ⟨h1, this.1, this.2, h2⟩
theorem less_rng {b : List Fa} {f : Fa} (pb : AllP b) (rb : RngF b) (hf : SetP f.l) (hr : Rng f.l) : Rng (less1 b f) := by
  obtain ⟨⟨z, c⟩, m⟩ := less_ok pb rb hf hr
  exact can_rng c fun u hu => rng_in hr ((m u).1 hu).1
theorem less_set {b : List Fa} {f : Fa} (pb : AllP b) (rb : RngF b) (hf : SetP f.l) (hr : Rng f.l) : SetP (less1 b f) := by
  obtain ⟨⟨z, c⟩, _⟩ := less_ok pb rb hf hr
  exact can_setP c
/-! ## lists of facts -/
theorem getD_in {l : List Fa} {i : Nat} (h : i < l.length) : l.getD i default = l[i] := by
  rw [List.getD_eq_getElem?_getD, List.getElem?_eq_getElem h]; rfl
theorem allP_iff {l : List Fa} : AllP l ↔ (∀ f ∈ l, MayF f) ∧ l.Pairwise (fun a b => cmpFa a b < 0) := by
  constructor
  · intro h
    refine ⟨fun f hf => ?_, List.pairwise_iff_getElem.2 fun i j hi hj hij => ?_⟩
    · obtain ⟨i, hi, rfl⟩ := List.getElem_of_mem hf
      have := (h i hi).1
      rwa [getD_in hi] at this
    · have := all_sorted h j i hij hj
      rwa [getD_in hi, getD_in hj] at this
  · rintro ⟨h1, h2⟩ i hi
    refine ⟨by rw [getD_in hi]; exact h1 _ (List.getElem_mem hi), fun h0 => ?_⟩
    have h3 := List.pairwise_iff_getElem.1 h2 (i - 1) i (by omega) hi (by omega)
    rwa [getD_in (by omega : i - 1 < l.length), getD_in hi]
theorem leftN_eq (D : Fa → List Sp) (a : List Fa) : ∀ n, n ≤ a.length → leftN D a n = ((a.take n).filter fun f => decide (0 < (D f).length)).map fun f => { f with l := D f }
  | 0, _ => by simp [leftN]
  | n + 1, h => by
    have hn : n < a.length := by omega
    rw [List.take_succ_eq_append_getElem hn, List.filter_append, List.map_append, ← leftN_eq D a n (by omega)]
    rw [show leftN D a (n + 1) = if 0 < (D (a.getD n default)).length then leftN D a n ++ [{ (a.getD n default) with l := D (a.getD n default) }] else leftN D a n from rfl]
    rw [getD_in hn]
    by_cases q : 0 < (D a[n]).length
    · rw [if_pos q, List.filter_cons_of_pos (by simpa using q)]; rfl
    · rw [if_neg q, List.filter_cons_of_neg (by simpa using q)]; simp
theorem left_eq (D : Fa → List Sp) (a : List Fa) : leftN D a a.length = (a.filter fun f => decide (0 < (D f).length)).map fun f => { f with l := D f } := by
  rw [leftN_eq D a _ (Nat.le_refl _), List.take_length]
theorem left_mem {D : Fa → List Sp} {a : List Fa} {g : Fa} : g ∈ leftN D a a.length ↔ ∃ f ∈ a, 0 < (D f).length ∧ g = { f with l := D f } := by
  rw [left_eq, List.mem_map]
  simp only [List.mem_filter, decide_eq_true_eq]
  constructor
  · rintro ⟨f, ⟨h1, h2⟩, rfl⟩; exact ⟨f, h1, h2, rfl⟩
  · rintro ⟨f, h1, h2, rfl⟩; exact ⟨f, ⟨h1, h2⟩, rfl⟩
theorem left_nil {D : Fa → List Sp} {a : List Fa} (h : ∀ f ∈ a, D f = []) : leftN D a a.length = [] := by
  rw [List.eq_nil_iff_forall_not_mem]
  intro g hg
  obtain ⟨f, hf, h0, _⟩ := left_mem.1 hg
  rw [h f hf] at h0
  exact absurd h0 (Nat.lt_irrefl _)
theorem left_all {D : Fa → List Sp} {a : List Fa} (pa : AllP a) (hD : ∀ f ∈ a, SetP (D f)) : AllP (leftN D a a.length) := by
  obtain ⟨h1, h2⟩ := allP_iff.1 pa
  refine allP_iff.2 ⟨fun g hg => ?_, ?_⟩
  · obtain ⟨f, hf, h0, rfl⟩ := left_mem.1 hg
    exact ⟨(h1 f hf).1, h0, hD f hf⟩
  · rw [left_eq, List.pairwise_map]
    exact h2.sublist List.filter_sublist
theorem cB_refl : ∀ a : List UInt8, Lib.compareBytes a a = 0
  | [] => rfl
  | x :: a => by
    simp only [Lib.compareBytes, UInt8.lt_iff_toNat_lt, Nat.lt_irrefl, if_false]
    exact cB_refl a
theorem cmpFa_refl (f g : Fa) (h : f.e = g.e ∧ f.a = g.a ∧ f.v = g.v) : cmpFa f g = 0 := by
  unfold cmpFa
  rw [or3_eq, h.1, h.2.1, h.2.2]
  refine ⟨cmpI_eq.2 rfl, cmpI_eq.2 rfl, ?_⟩
  unfold cmpVa
  rw [or3_eq]
  exact ⟨cmpI_eq.2 rfl, cmpI_eq.2 rfl, cB_refl _⟩
theorem findL_mem {b : List Fa} (pb : AllP b) {f g : Fa} (hf : f ∈ b) (h : f.e = g.e ∧ f.a = g.a ∧ f.v = g.v) : findL b g = f.l := by
  obtain ⟨i, hi, rfl⟩ := List.getElem_of_mem hf
  have h0 : cmpFa b[i] g = 0 := cmpFa_refl _ _ h
  rw [findL_at (i := i) hi (fun j hj hz => ?_) (by rw [getD_in hi]; exact h0), getD_in hi]
  have := all_sorted pb i j hj hi
  rw [getD_in hi, cmpFa_r h0] at this
  omega
theorem rngF_mem {l : List Fa} : RngF l ↔ ∀ f ∈ l, Rng f.l := by
  constructor
  · intro h f hf
    obtain ⟨i, hi, rfl⟩ := List.getElem_of_mem hf
    have := h i hi
    rwa [getD_in hi] at this
  · intro h i hi
    rw [getD_in hi]; exact h _ (List.getElem_mem hi)
section
variable {a b : List Fa} (pa : AllP a) (pb : AllP b) (ra : RngF a) (rb : RngF b)
include pa pb ra rb
theorem come_set (f : Fa) (hf : f ∈ b) : SetP (less1 a f) ∧ Rng (less1 a f) := by
  have h1 := ((allP_iff.1 pb).1 f hf).2.2
  have h2 := rngF_mem.1 rb f hf
  exact ⟨less_set pa ra h1 h2, less_rng pa ra h1 h2⟩
theorem come_all : AllP (leftN (less1 a) b b.length) := left_all pb fun f hf => (come_set pa pb ra rb f hf).1
theorem come_rng : RngF (leftN (less1 a) b b.length) := rngF_mem.2 fun g hg => by
  obtain ⟨f, hf, _, rfl⟩ := left_mem.1 hg
  exact (come_set pa pb ra rb f hf).2
/-- what came is behind -/
theorem come_in : leftN (less1 b) (leftN (less1 a) b b.length) (leftN (less1 a) b b.length).length = [] := by
  refine left_nil fun g hg => ?_
  obtain ⟨f, hf, _, rfl⟩ := left_mem.1 hg
  obtain ⟨c1, c2⟩ := come_set pa pb ra rb f hf
  obtain ⟨⟨z, c⟩, m⟩ := less_ok (f := { f with l := less1 a f }) pb rb c1 c2
  refine can_nil c fun u hu => ?_
  obtain ⟨h1, h2⟩ := (m u).1 hu
  rw [findL_mem pb (g := { f with l := less1 a f }) hf ⟨rfl, rfl, rfl⟩] at h2
  exact h2 (((less_ok pa ra ((allP_iff.1 pb).1 f hf).2.2 (rngF_mem.1 rb f hf)).2 u).1 h1).1
end
theorem self_nil {a : List Fa} (pa : AllP a) (ra : RngF a) : leftN (less1 a) a a.length = [] := by
  refine left_nil fun f hf => ?_
  obtain ⟨⟨z, c⟩, m⟩ := less_ok (f := f) pa ra ((allP_iff.1 pa).1 f hf).2.2 (rngF_mem.1 ra f hf)
  refine can_nil c fun u hu => ?_
  obtain ⟨h1, h2⟩ := (m u).1 hu
  rw [findL_mem pa (g := f) hf ⟨rfl, rfl, rfl⟩] at h2
  exact h2 h1
end Go.Px.Fs
end
/- PxTt -/
section
set_option linter.unusedVariables false
namespace Go.Px
open Go.Deep Go.ChangeShapes Go.WideShapes
/-- a world's blocks, as they are -/
def held0 (W : World) (B : Nat) : List Value := match W.heap[B]? with
  | some (.cells c _ _) => c.toList
  | _ => []
theorem held0_at {W : World} {B j : Nat} {x : Value} : (held0 W B)[j]? = some x ↔ W.cell? ⟨B, j, none⟩ = some x := by
  unfold held0 World.cell?
  split
  · rename_i c t f e
    simp [e]
  · rename_i e
    constructor
    · intro h; simp at h
    · intro h
      split at h
      · rename_i c t f e2; exact absurd e2 (e c t f)
      · cases h
theorem held0_fz (W : World) : FzW (held0 W) W := fun B j x h => held0_at.1 h
theorem read_slice {H : Type} {enc : TypeId × Value → H} {P : Program} {W : World} {α : Type} [Inhabited α] {en : α → List AV} {z : Nat} (hz : 0 < z) (hen : ∀ a, (en a).length = z) {t e : TypeId} (ht : P.underlying t = some (.slice e)) (hc : P.cellsOf e = z) {Q : α → DataW H → Prop}
    (hel : ∀ n cs y, DataW.trod enc P W 0 (fun _ => true) true n e cs = some y → ∃ x, VRs (fzm (held0 W)) (en x) cs ∧ Q x y.1)
    {n : Nat} {v : Value} {y : DataW H × List MemPlace} (h : DataW.trod enc P W 0 (fun _ => true) true n t [v] = some y) :
    ∃ l : List α, VR (fzm (held0 W)) (dsl z en l) v ∧ ((l = [] ∧ y.1 = .nil) ∨ ∃ els sp, y.1 = .slice els sp ∧ els.length = l.length ∧ ∀ i, i < l.length → ∃ d ∈ els, Q (l.getD i default) d) := by
  rcases open_slice ht h with ⟨hv, rfl⟩ | ⟨a, len, cap, m, k, D, Pl, hv, hb, hl, hm, hmm, rfl, hx⟩
  · have hv : v = .slice none 0 0 := by simpa using hv
    subst hv
    exact ⟨[], by simp [dsl, VR], .inl ⟨rfl, rfl⟩⟩
  · have hv : v = .slice (some a) len cap := by simpa using hv
    subst hv
    rw [hc] at hx
    have hlm : len ≤ m := by rw [hmm]; split <;> omega
    obtain ⟨f, hf⟩ := choose_lt (α := α) (n := len) (p := fun i x => ∃ cs, W.cells? 0 (a.add (i * z)) z = some cs ∧ VRs (fzm (held0 W)) (en x) cs ∧ Q x (D i)) (fun i hi => by
      obtain ⟨cs', h1, h2⟩ := hx i (by omega)
      obtain ⟨x, x1, x2⟩ := hel _ _ _ h2
      exact ⟨x, cs', h1, x1, x2⟩)
    have hlen : ((List.range len).map f).length = len := by simp
    refine ⟨(List.range len).map f, ?_, .inr ⟨_, _, rfl, by simp, fun i hi => ?_⟩⟩
    · unfold dsl
      rw [hlen]
      simp only [VR]
      refine ⟨by rw [flat_len hen, hlen], ?_⟩
      by_cases h0 : len = 0
      · exact .inl ⟨h0, .inr ⟨a, cap, by rw [h0]⟩⟩
      · right
        obtain ⟨B, o, spot⟩ := a
        have hspot : spot = none := by
          obtain ⟨cs, c1, c2, _⟩ := hf 0 (by omega)
          obtain ⟨_, q2, q3⟩ := World.cells?_some c1
          have q4 := q3 0 hz
          rw [List.getElem?_eq_getElem (by omega)] at q4
          simpa [Addr.add] using World.cell?_spot q4
        subst hspot
        refine ⟨B, o, cap, ((held0 W B).drop o).take (len * z), rfl, hl, ?_, fun j x hj => ?_⟩
        · have key : ∀ k, k ≤ len → VRs (fzm (held0 W)) (((List.range k).map f).flatMap en) (((held0 W B).drop o).take (k * z)) := by
            intro k
            induction k with
            | zero => intro _; simp [VRs]
            | succ k ih =>
              intro hk
              have h1 := ih (by omega)
              obtain ⟨cs, c1, c2, _⟩ := hf k (by omega)
              obtain ⟨_, q2, q3⟩ := World.cells?_some c1
              have e : ((held0 W B).drop o).take ((k + 1) * z) = ((held0 W B).drop o).take (k * z) ++ cs := by
                rw [Nat.succ_mul, List.take_add]
                congr 1
                apply List.ext_getElem?
                intro r
                rw [List.drop_drop, List.getElem?_take]
                by_cases hr : r < z
                · rw [if_pos hr, List.getElem?_drop]
                  have q4 := q3 r hr
                  rw [List.getElem?_eq_getElem (show r < cs.length by omega)] at q4 ⊢
                  rw [add_plain, add_plain] at q4
                  have := held0_at.2 q4
                  rw [← this]
                · rw [if_neg hr, List.getElem?_eq_none (by omega)]
              rw [List.range_succ, List.map_append, List.flatMap_append, e]
              refine h1.append ?_
              simpa using c2
          exact key len (Nat.le_refl _)
        · rw [List.getElem?_take] at hj
          split at hj
          · rw [List.getElem?_drop] at hj
            exact hj
          · cases hj
    · have hi' : i < len := by omega
      obtain ⟨cs, _, _, q⟩ := hf i hi'
      refine ⟨D i, List.mem_map.2 ⟨i, List.mem_range.2 hi', rfl⟩, ?_⟩
      rw [List.getD_eq_getElem?_getD]
      simpa [hi'] using q
/-- a text that came in -/
theorem read_str (ρ : Map) (s : ByteArray) : VR ρ (sA s.data.toList) (.string s) := by
  unfold sA
  simp only [VR, bs]
  congr 1
  obtain ⟨⟨l⟩⟩ := s
  simp [List.map_map, Function.comp_def]
/-! ## it reads as before -/
theorem trodAll_carry {H : Type} {enc : TypeId × Value → H} {P : Program} {w w' : World} {base : Nat} {sp : Nat → Bool} {hd : Bool} : ∀ {ts : List TypeId} {vs : List Value} {ds : List (DataW H)} {ps : List MemPlace}, DataW.TrodAll enc P w base sp hd ts vs ds ps → (∀ p ∈ ps, w.sameAt w' p) → DataW.TrodAll enc P w' base sp hd ts vs ds ps
  | [], [], [], _, h, _ => h
  | _ :: _, _ :: _, _ :: _, _, ⟨p, q, ⟨n, h1⟩, h2, e⟩, hs => ⟨p, q, ⟨n, DataW.trod_carry n _ _ _ h1 fun x hx => hs x (by rw [e]; exact List.mem_append_left _ hx)⟩, trodAll_carry h2 (fun x hx => hs x (by rw [e]; exact List.mem_append_right _ hx)), e⟩
theorem ext_same {w w' : World} (h : ExtW w w') {p : MemPlace} (hp : p.block < w.heap.size) : w.sameAt w' p := by
  cases p with
  | cell b off =>
    show w'.cell? ⟨b, off, none⟩ = w.cell? ⟨b, off, none⟩
    unfold World.cell?
    rw [h.2 b hp]
  | map b => exact h.2 b hp
theorem ext_kept {w w' : World} (h : ExtW w w') (may : MemPlace → Prop) : w.keptBut w' may := by
  refine ⟨h.1.os, h.1.output, fun i hi => ?_⟩
  rw [h.2 i hi]
  cases w.heap[i]? with
  | none => rfl
  | some b => cases b <;> first | rfl | exact ⟨rfl, rfl, rfl, fun _ _ => rfl⟩ | exact .inr ⟨rfl, rfl⟩
/-- a contract, as a call -/
theorem KOk.calls {c : Ctx} (k : CtxOk c) {f : FuncId} {fn : Func} (hf : c.P.funcs[f]? = some fn) (hb : fn.body.isSome = true) {args : List AV} {v : AV} (hk : KOk c f args v) {W : World} {A : List Value} (hA : VRs (fzm (held0 W)) args A) : Calls c.P f A.toArray W fun e W' => ∃ z, e = .returned z ∧ ExtW W W' ∧ ∃ ρ, VR ρ v z := by
  obtain ⟨nx, w1, q1, q2⟩ := hk (held0 W) W A (held0_fz W) hA
  obtain ⟨bd, hbd⟩ := Option.isSome_iff_exists.1 hb
  have hnm : fn.name ≠ "runtime.NumGoroutine" := by simpa using k.names f fn hf
  have hcall : (callFunc f A.toArray).run c.P W = .ok (.enter f A.toArray) W := by simp [callFunc, hf, hnm, hbd]
  rw [hcall] at q1
  cases q1
  have q3 : CallsIn Fence.wide 0 c.P f A.toArray W (EndR _) := q2
  refine (callsIn_wide.1 q3).mono fun e w' r => ?_
  cases e with
  | returned z =>
    obtain ⟨g, F', _, _, _, hv⟩ := r
    exact ⟨z, rfl, g, fzm F', hv⟩
  | panicked ch => exact r.elim
  | outgrown => exact r.elim
end Go.Px
end
/- PxTu -/
section
set_option linter.unusedVariables false
namespace Go.Px
section
variable {c : Ctx} (k : CtxOk c) (kn : ∀ f, c.kn.get none f = none) {draw : DrawOk} (dc : DrawCalm draw) (dr : DrawSound c draw) {ext : Ext} (hx : ExtOk c ext) {lim : Nat}
include k kn dc dr hx
theorem app_ok : ∀ n, AppOk c (app c draw lim ext n) := by
  intro n
  induction n with
  | zero => intro t args h v h' he; cases he
  | succ n ih =>
    intro t args h v h' he ρ w A hr wf fr hA
    cases t with
    | f f =>
      have he' : (match known c f args with | some v => Ans.ok v h | none => callA c draw (app c draw lim ext n) lim ext f args h) = .ok v h' := he
      have hkn : known c f args = none := by unfold known; rw [kn f]
      rw [hkn] at he'
      exact callA_ok k dc dr hx ih he' hr wf fr hA
    | y l => exact fun B N hl => yieldA_ok k dc dr ih he hr wf fr hA hl
end
/-- does a run answer so -/
def answers (r : Ans) (b : Bool) : Bool := match r with | .ok v _ => (match v with | .bool x => (match x, b with | true, true => true | false, false => true | _, _ => false) | _ => false) | .bad _ => false
theorem answers_ok {r : Ans} {b : Bool} (h : answers r b = true) : ∃ h', r = .ok (.bool b) h' := by
  unfold answers at h
  split at h
  · split at h
    · rename_i x
      cases x <;> cases b <;> first | exact ⟨_, rfl⟩ | cases h
    · cases h
  · cases h
/-- BY A RUN: a contract -/
theorem KOk.run {c : Ctx} (k : CtxOk c) (kn : ∀ f, c.kn.get none f = none) (hm : c.P.follows .mixedOrders = true) (hg0 : ∀ i r, c.g0.get i ≠ .gl r) {ext : Ext} (hx : ExtOk c ext) {f : FuncId} {args : List AV} {v : AV} {lim n : Nat}
    (hrun : ∃ h', app c drawA lim ext n (.f f) args h0 = .ok v h') (hd : datB v = true) : KOk c f args v := by
  obtain ⟨h', hr⟩ := hrun
  intro F w A hF hA
  obtain ⟨nx, w1, q1, q2⟩ := app_ok k kn drawA_calm (drawA_sound k hm) hx n (.f f) args h0 v h' hr (fzm F) w A (empty_hr F w hF) empty_wf ⟨fun _ _ => rfl, fun i r e => absurd e (hg0 i r)⟩ hA
  exact ⟨nx, w1, q1, q2.mono fun z w' ⟨ρ', g, hz⟩ => ⟨⟨g.same, fun b hb => g.frame b hb (fun i N e => by cases e)⟩, ρ'.F, g.sub.F, (fun b hb => g.fold b hb (fun i N e => by cases e)), g.hr.fz, dat_ok v hd hz⟩⟩
end Go.Px
end
/- PxTv -/
section
set_option linter.unusedVariables false
namespace Go.Px
def inL (xs : List Nat) (f : Nat) : Bool := match xs with | [] => false | x :: r => (match Nat.beq x f with | true => true | false => inL r f)
theorem inL_mem : ∀ {xs : List Nat} {f : Nat}, inL xs f = true → f ∈ xs
  | [], _, h => by cases h
  | x :: r, f, h => by
    unfold inL at h
    split at h
    · rename_i q; rw [beqT q]; exact List.mem_cons_self
    · exact List.mem_cons_of_mem _ (inL_mem h)
def extC (xs : List Nat) : Ext := fun _ f _ args h => match inL xs f with
  | false => .bad ["extern"]
  | true => (match args with
    | [a, b] => (match a with
      | .str a => (match b with
        | .str b => .ok (.int .i64 (Lib.compareBytes (a.map UInt8.ofNat) (b.map UInt8.ofNat))) h
        | _ => .bad ["extern"])
      | _ => .bad ["extern"])
    | _ => .bad ["extern"])
theorem extC_ok {c : Ctx} {xs : List Nat} (H : ∀ f ∈ xs, ∃ fn, c.P.funcs[f]? = some fn ∧ (fn.name == "runtime.NumGoroutine") = false ∧ fn.body.isNone = true ∧ Extern.findNext fn = none ∧ Extern.find fn = some Extern.BytealgCompare.compare) : ExtOk c (extC xs) := by
  intro app ha f fn args h v h' he hP hb ρ w A hr wf fr hA
  unfold extC at he
  split at he
  · cases he
  · rename_i hin
    obtain ⟨fn', h0, h1, h2, h3, h4⟩ := H f (inL_mem hin)
    split at he
    · rename_i a b
      split at he
      · rename_i a
        split at he
        · rename_i b
          cases he
          simp only [VRs, VR] at hA
          obtain ⟨_, _, rfl, ⟨_, _, rfl, rfl, rfl⟩, rfl⟩ := hA
          refine ⟨_, w, by rw [run_callFunc_extern h0 h1 h2 h3 h4, Lib.run_compareString]; rfl, ?_⟩
          exact ⟨ρ, Good.refl hr wf, by simp only [VR, bs]⟩
        · cases he
      · cases he
    · cases he
end Go.Px
end
/- FsAl -/
section
set_option linter.unusedVariables false
namespace Go.Px.Fs
open Go.Proofs
theorem xs_ok : ∀ f ∈ [140], ∃ fn, cF.P.funcs[f]? = some fn ∧ (fn.name == "runtime.NumGoroutine") = false ∧ fn.body.isNone = true ∧ Extern.findNext fn = none ∧ Extern.find fn = some Extern.BytealgCompare.compare := by
  intro f hf
  rw [List.mem_singleton] at hf
  subst hf
  exact ⟨Try.f140, Try.func140, by kernel_rfl, by kernel_rfl, by kernel_rfl, by kernel_rfl⟩
set_option maxRecDepth 1000000 in
theorem alive_ran : answers (app cF drawA 100000 (extC [140]) 60 (.f 19) [] h0) true = true := by kernel_rfl
theorem kAl : KOk cF 19 [] (.bool true) := KOk.run cF_ok (fun f => get_leaf none f) hm eF.g (extC_ok xs_ok) (answers_ok alive_ran) rfl
end Go.Px.Fs
end
/- FsY -/
section
set_option linter.unusedVariables false
set_option linter.unusedSimpArgs false
set_option maxHeartbeats 4000000
set_option maxRecDepth 20000
namespace Go.Px.Fs
open Go.Proofs
attribute [local irreducible] Go.Px.KOk
theorem less_len {a : List Fa} {n : Nat} (ha : ∀ i, (a.getD i default).l.length ≤ n) (f : Fa) : (less1 a f).length ≤ f.l.length + n + 1 := by
  unfold less1
  have h1 := meetL_len _ f.l (restL (findB a (keyF f))) (Nat.le_refl _)
  have h2 := restL_len (findB a (keyF f))
  have h3 : (findB a (keyF f)).length ≤ n := by
    unfold findB
    cases bd (firstG a (keyF f) < a.length ∧ cmpFa (a.getD (firstG a (keyF f)) default) (keyF f) = 0)
    · exact Nat.zero_le _
    · exact ha _
  omega
theorem left_le {a b : List Fa} {n : Nat} (hb : Sml b) (ha : ∀ i, (a.getD i default).l.length ≤ n) : (leftN (less1 a) b b.length).length ≤ 3000 ∧ ∀ i, ((leftN (less1 a) b b.length).getD i default).v.s.length ≤ 3000 ∧ ((leftN (less1 a) b b.length).getD i default).l.length ≤ 3001 + n := by
  refine ⟨by have := leftN_len (less1 a) b b.length; have := hb.1; omega, fun i => ?_⟩
  by_cases hi : i < (leftN (less1 a) b b.length).length
  · have hm := List.getElem_mem hi
    rw [getD_in hi]
    obtain ⟨f, hf, _, e⟩ := left_mem.1 hm
    obtain ⟨j, hj, rfl⟩ := List.getElem_of_mem hf
    have h2 := hb.2 j
    rw [getD_in hj] at h2
    rw [e]
    refine ⟨h2.1, ?_⟩
    have := less_len ha b[j]
    show (less1 a b[j]).length ≤ _
    omega
  · rw [List.getD_eq_getElem?_getD, List.getElem?_eq_none (by omega)]
    exact ⟨Nat.zero_le _, Nat.zero_le _⟩
/-- THE LAW -/
theorem kL (a b : List Fa) (ha : InB a) (hb : InB b) (ra : RngF a) (rb : RngF b) : KOk cF 5 [fasA a, fasA b] (.bool true) := by
  have g1 := k4 a ha
  have g2 := k4 b hb
  have g0 := kAl
  by_cases qa : 3000 < sumN a a.length
  · rw [show greatI a = 1 from if_pos qa] at g1
    refine KOk.of cF_ok eF.g Try.func5 rfl (Nat.le_of_ble_eq_true rfl) fun w F => ?_
    repeat' first | refine Go.seq ?_ | refine Go.region rfl ?_ | refine Ops.nil ?_ | refine Ops.val eF rfl rfl (by first | exact Want.no rfl | exact Want.tT rfl rfl rfl rfl | exact Want.fF rfl rfl rfl rfl) (by first | exact Hop.move rfl rfl | exact Hop.assign rfl rfl | exact Hop.pickT rfl rfl rfl | exact Hop.gtr rfl rfl rfl) ?_ | refine Ops.skip rfl rfl (by first | exact Want.fT rfl rfl rfl rfl | exact Want.tF rfl rfl rfl rfl | exact Want.und rfl rfl rfl rfl) ?_ | refine Ops.gT rfl rfl (by first | assumption | decide) ?_ | refine Ops.call eF rfl rfl (by first | exact Want.no rfl | exact Want.tT rfl rfl rfl rfl | exact Want.fF rfl rfl rfl rfl) rfl rfl rfl rfl (g0) rfl ?_ | refine Ops.call eF rfl rfl (by first | exact Want.no rfl | exact Want.tT rfl rfl rfl rfl | exact Want.fF rfl rfl rfl rfl) rfl rfl rfl rfl (g1) rfl ?_ | refine Go.condT rfl ?_ | refine Go.retF rfl ?_ rfl
    all_goals first | rfl | (exfalso; omega)
  rw [show greatI a = 0 from if_neg qa] at g1
  by_cases qb : 3000 < sumN b b.length
  · rw [show greatI b = 1 from if_pos qb] at g2
    refine KOk.of cF_ok eF.g Try.func5 rfl (Nat.le_of_ble_eq_true rfl) fun w F => ?_
    repeat' first | refine Go.seq ?_ | refine Go.region rfl ?_ | refine Ops.nil ?_ | refine Ops.val eF rfl rfl (by first | exact Want.no rfl | exact Want.tT rfl rfl rfl rfl | exact Want.fF rfl rfl rfl rfl) (by first | exact Hop.move rfl rfl | exact Hop.assign rfl rfl | exact Hop.pickT rfl rfl rfl | exact Hop.pickF rfl rfl rfl | exact Hop.gtr rfl rfl rfl) ?_ | refine Ops.skip rfl rfl (by first | exact Want.fT rfl rfl rfl rfl | exact Want.tF rfl rfl rfl rfl | exact Want.und rfl rfl rfl rfl) ?_ | refine Ops.gT rfl rfl (by first | assumption | decide) ?_ | refine Ops.gF rfl rfl (by first | assumption | decide) ?_ | refine Ops.call eF rfl rfl (by first | exact Want.no rfl | exact Want.tT rfl rfl rfl rfl | exact Want.fF rfl rfl rfl rfl) rfl rfl rfl rfl (g0) rfl ?_ | refine Ops.call eF rfl rfl (by first | exact Want.no rfl | exact Want.tT rfl rfl rfl rfl | exact Want.fF rfl rfl rfl rfl) rfl rfl rfl rfl (g1) rfl ?_ | refine Ops.call eF rfl rfl (by first | exact Want.no rfl | exact Want.tT rfl rfl rfl rfl | exact Want.fF rfl rfl rfl rfl) rfl rfl rfl rfl (g2) rfl ?_ | refine Go.condT rfl ?_ | refine Go.retF rfl ?_ rfl
    all_goals first | rfl | (exfalso; omega)
  rw [show greatI b = 0 from if_neg qb] at g2
  have sa := sml_of qa
  have sb := sml_of qb
  by_cases hp : AllP a ∧ AllP b
  · have fa := sml_B sa
    have fb := sml_B sb
    have c1 := left_le sb (fun i => (sa.2 i).2)
    have c2 := left_le sb (fun i => (c1.2 i).2)
    have d1 := left_le sa (fun i => (sb.2 i).2)
    have fc : FasB (leftN (less1 a) b b.length) := ⟨by have := c1.1; omega, fun i => ⟨by have := (c1.2 i).1; omega, by have := (c1.2 i).2; omega⟩⟩
    have fd : FasB (leftN (less1 b) a a.length) := ⟨by have := d1.1; omega, fun i => ⟨by have := (d1.2 i).1; omega, by have := (d1.2 i).2; omega⟩⟩
    have fu : FasB (leftN (less1 (leftN (less1 a) b b.length)) b b.length) := ⟨by have := c2.1; omega, fun i => ⟨by have := (c2.2 i).1; omega, by have := (c2.2 i).2; omega⟩⟩
    have pc := come_all hp.1 hp.2 ra rb
    have rc := come_rng hp.1 hp.2 ra rb
    have pu := come_all pc hp.2 rc rb
    have h5 := k5 a b fa fb hp.1 hp.2
    have h6 := k5 b a fb fa hp.2 hp.1
    have h7 := k5 a a fa fa hp.1 hp.1
    have h8 := k5 (leftN (less1 a) b b.length) b fc fb pc hp.2
    rw [self_nil hp.1 ra] at h7
    rw [come_in hp.1 hp.2 ra rb] at h8
    have h11 := k10 _ fu
    rw [bd_of pu] at h11
    have h9 := k7 _ _ fc fc
    have h10 := k7 _ _ fd fd
    rw [bd_of rfl] at h9 h10
    clear pu pc rc fa fb c1 c2 d1 fc fd fu
    generalize leftN (less1 (leftN (less1 a) b b.length)) b b.length = u at *
    generalize leftN (less1 a) b b.length = x at *
    generalize leftN (less1 b) a a.length = y at *
    refine KOk.of cF_ok eF.g Try.func5 rfl (Nat.le_of_ble_eq_true rfl) fun w F => ?_
    repeat' first | refine Go.seq ?_ | refine Go.region rfl ?_ | refine Ops.nil ?_ | refine Ops.val eF rfl rfl (by first | exact Want.no rfl | exact Want.tT rfl rfl rfl rfl | exact Want.fF rfl rfl rfl rfl) (by first | exact Hop.move rfl rfl | exact Hop.assign rfl rfl | exact Hop.pickT rfl rfl rfl | exact Hop.pickF rfl rfl rfl | exact Hop.not rfl rfl | exact Hop.gtr rfl rfl rfl | exact Hop.eql rfl rfl rfl | exact Hop.neq rfl rfl rfl | exact Hop.lenD eF rfl rfl rfl rfl rfl rfl rfl | exact Hop.extract rfl rfl rfl) ?_ | refine Ops.skip rfl rfl (by first | exact Want.fT rfl rfl rfl rfl | exact Want.tF rfl rfl rfl rfl | exact Want.und rfl rfl rfl rfl) ?_ | refine Ops.gT rfl rfl (by first | assumption | decide) ?_ | refine Ops.gF rfl rfl (by first | assumption | decide) ?_ | refine Ops.gP rfl rfl (fun _ => ?_) (fun _ => ?_) | refine Ops.call eF rfl rfl (by first | exact Want.no rfl | exact Want.tT rfl rfl rfl rfl | exact Want.fF rfl rfl rfl rfl) rfl rfl rfl rfl (g0) rfl ?_ | refine Ops.call eF rfl rfl (by first | exact Want.no rfl | exact Want.tT rfl rfl rfl rfl | exact Want.fF rfl rfl rfl rfl) rfl rfl rfl rfl (g1) rfl ?_ | refine Ops.call eF rfl rfl (by first | exact Want.no rfl | exact Want.tT rfl rfl rfl rfl | exact Want.fF rfl rfl rfl rfl) rfl rfl rfl rfl (g2) rfl ?_ | refine Ops.call eF rfl rfl (by first | exact Want.no rfl | exact Want.tT rfl rfl rfl rfl | exact Want.fF rfl rfl rfl rfl) rfl rfl rfl rfl (h5) rfl ?_ | refine Ops.call eF rfl rfl (by first | exact Want.no rfl | exact Want.tT rfl rfl rfl rfl | exact Want.fF rfl rfl rfl rfl) rfl rfl rfl rfl (h6) rfl ?_ | refine Ops.call eF rfl rfl (by first | exact Want.no rfl | exact Want.tT rfl rfl rfl rfl | exact Want.fF rfl rfl rfl rfl) rfl rfl rfl rfl (h7) rfl ?_ | refine Ops.call eF rfl rfl (by first | exact Want.no rfl | exact Want.tT rfl rfl rfl rfl | exact Want.fF rfl rfl rfl rfl) rfl rfl rfl rfl (h8) rfl ?_ | refine Ops.call eF rfl rfl (by first | exact Want.no rfl | exact Want.tT rfl rfl rfl rfl | exact Want.fF rfl rfl rfl rfl) rfl rfl rfl rfl (h9) rfl ?_ | refine Ops.call eF rfl rfl (by first | exact Want.no rfl | exact Want.tT rfl rfl rfl rfl | exact Want.fF rfl rfl rfl rfl) rfl rfl rfl rfl (h10) rfl ?_ | refine Ops.call eF rfl rfl (by first | exact Want.no rfl | exact Want.tT rfl rfl rfl rfl | exact Want.fF rfl rfl rfl rfl) rfl rfl rfl rfl (h11) rfl ?_ | refine Go.condF rfl ?_ | refine Go.condNt rfl (fun _ => ?_) (fun _ => ?_) | refine Go.skip ?_ | refine Go.retF rfl ?_ rfl
    all_goals first | rfl | (exfalso; omega)
  · have h5 := k5n a b (sml_B sa) (sml_B sb) hp
    refine KOk.of cF_ok eF.g Try.func5 rfl (Nat.le_of_ble_eq_true rfl) fun w F => ?_
    repeat' first | refine Go.seq ?_ | refine Go.region rfl ?_ | refine Ops.nil ?_ | refine Ops.val eF rfl rfl (by first | exact Want.no rfl | exact Want.tT rfl rfl rfl rfl | exact Want.fF rfl rfl rfl rfl) (by first | exact Hop.move rfl rfl | exact Hop.assign rfl rfl | exact Hop.pickT rfl rfl rfl | exact Hop.pickF rfl rfl rfl | exact Hop.not rfl rfl | exact Hop.gtr rfl rfl rfl | exact Hop.eql rfl rfl rfl | exact Hop.neq rfl rfl rfl | exact Hop.lenD eF rfl rfl rfl rfl rfl rfl rfl | exact Hop.extract rfl rfl rfl) ?_ | refine Ops.gT rfl rfl (by first | assumption | decide) ?_ | refine Ops.gF rfl rfl (by first | assumption | decide) ?_ | refine Ops.call eF rfl rfl (by first | exact Want.no rfl | exact Want.tT rfl rfl rfl rfl | exact Want.fF rfl rfl rfl rfl) rfl rfl rfl rfl (g0) rfl ?_ | refine Ops.call eF rfl rfl (by first | exact Want.no rfl | exact Want.tT rfl rfl rfl rfl | exact Want.fF rfl rfl rfl rfl) rfl rfl rfl rfl (g1) rfl ?_ | refine Ops.call eF rfl rfl (by first | exact Want.no rfl | exact Want.tT rfl rfl rfl rfl | exact Want.fF rfl rfl rfl rfl) rfl rfl rfl rfl (g2) rfl ?_ | refine Ops.call eF rfl rfl (by first | exact Want.no rfl | exact Want.tT rfl rfl rfl rfl | exact Want.fF rfl rfl rfl rfl) rfl rfl rfl rfl (h5) rfl ?_ | refine Go.condF rfl ?_ | refine Go.condNt rfl (fun _ => ?_) (fun _ => ?_) | refine Go.skip ?_ | refine Go.retF rfl ?_ rfl
    all_goals first | rfl | (rw [bd_of (show ((([] : List Fa).length : Nat) : Int) = 0 from rfl)]; rfl) | (exfalso; omega)
end Go.Px.Fs
end
