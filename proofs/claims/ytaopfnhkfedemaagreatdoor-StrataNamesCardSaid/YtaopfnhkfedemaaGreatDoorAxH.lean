/-
  AxH: slices of slices and texts; lengths; least and greatest; '=='.
-/
import Derived.Test.YtaopfnhkfedemaaGreatDoorAxG
set_option linter.unusedVariables false
set_option linter.unusedSimpArgs false
namespace Go.Ax

/-- an optional operand, read -/
def VRo (ρ : Map) : Option AV → Option Value → Prop
  | none, y => y = none
  | some a, y => ∃ v, y = some v ∧ VR ρ a v

theorem evo_ok {ρ : Map} {e : T AV} {a : Act} {sz : Nat} (h : ER ρ e a.tmps sz) (x : Option Operand) : VRo ρ (evo e x) (x.map a.eval) := by
  cases x with
  | none => simp [evo, VRo]
  | some x => simp only [evo, VRo, Option.map_some]; exact ⟨_, rfl, ev_ok h x⟩

section
variable {P : Program}
/-- a bound that is there, or its default -/
theorem optInt_ok {ρ : Map} {x : Option AV} {y : Option Value} {d most n : Nat} (e : optInt x d most = some n) (h : VRo ρ x y) :
    (x = none ∧ y = none ∧ n = d) ∨ ∃ ik, y = some (.int ik (n : Int)) ∧ n ≤ most ∧ x.isSome = true := by
  unfold optInt at e
  split at e
  · cases e; simp only [VRo] at h; exact .inl ⟨rfl, h, rfl⟩
  · rename_i v
    split at e
    · rename_i ik i
      simp only [VRo, VR] at h
      obtain ⟨_, rfl, rfl⟩ := h
      obtain ⟨rfl, hle⟩ := upTo_ok e
      exact .inr ⟨ik, rfl, hle, rfl⟩
    · cases e

theorem bound_ok (ik : IntKind) (n y : Nat) (code : BoundsCode) (h : n ≤ y) (w : World) : (Instr.sliceBound (.int ik (n : Int)) y code).run P w = .ok n w := by
  have h1 : ¬ y < n := by omega
  simp [Instr.sliceBound, asIntOf, h1]

/-- the bounds, without a third -/
theorem bounds2 {ρ : Map} {lo hi : Option AV} {l' h' : Option Value} {len cap l h : Nat} (e1 : optInt hi len len = some h) (e2 : optInt lo 0 h = some l) (v1 : VRo ρ hi h') (v2 : VRo ρ lo l')
    (s : Bool) (hc : len ≤ cap) (w : World) : (Instr.sliceBounds s len cap l' h' none).run P w = .ok (l, h, cap) w ∧ l ≤ h ∧ h ≤ len := by
  rcases optInt_ok e1 v1 with ⟨_, rfl, rfl⟩ | ⟨ik, rfl, hle, _⟩
  · rcases optInt_ok e2 v2 with ⟨_, rfl, rfl⟩ | ⟨jk, rfl, hle2, _⟩
    · exact ⟨by simp [Instr.sliceBounds], Nat.zero_le _, Nat.le_refl _⟩
    · exact ⟨by simp [Instr.sliceBounds, bound_ok jk l h _ hle2], hle2, Nat.le_refl _⟩
  · have b1 : ∀ code w, (Instr.sliceBound (.int ik (h : Int)) cap code).run P w = .ok h w := fun code w => bound_ok ik h cap code (by omega) w
    rcases optInt_ok e2 v2 with ⟨_, rfl, rfl⟩ | ⟨jk, rfl, hle2, _⟩
    · exact ⟨by simp [Instr.sliceBounds, b1], Nat.zero_le _, hle⟩
    · exact ⟨by simp [Instr.sliceBounds, b1, bound_ok jk l h _ hle2], hle2, hle⟩
end

section
variable {c : Ctx} (k : CtxOk c)
include k

theorem slice_ok {ρ : Map} {t : TypeId} {x v : AV} {lo hi mx : Option AV} {y : Value} {l' h' m' : Option Value} (e : oSlice c t x lo hi mx = some v) (hx : VR ρ x y) (h1 : VRo ρ lo l') (h2 : VRo ρ hi h') (h3 : VRo ρ mx m') :
    ∃ z, (∀ w, (Instr.sliceAt t y l' h' m').run c.P w = .ok z w) ∧ VR ρ v z := by
  unfold oSlice at e
  split at e
  · rename_i d hd
    split at e
    · -- a text
      split at e
      · rename_i l
        simp only [VR] at hx; subst hx
        split at e
        · cases e
        · simp only [VRo] at h3; subst h3
          split at e
          · rename_i b hb
            split at e
            · rename_i a ha
              cases e
              refine ⟨.string ((bs l).extract a b), fun w => ?_, ?_⟩
              · obtain ⟨q, _, _⟩ := bounds2 (P := c.P) (cap := l.length) hb ha h2 h1 false (Nat.le_refl _) w
                simp [Instr.sliceAt, Instr.slice, run_under k hd, bs_size, q]
              · simp only [VR]
                congr 1
                apply ByteArray.ext
                rw [ByteArray.data_extract]
                simp [bs, List.map_drop, List.map_take, List.drop_take]
            · cases e
          · cases e
      · cases e
    · -- a slice
      rename_i el
      split at e
      · rename_i s hsz
        split at e
        · rename_i id off len cap z
          split at e
          · rename_i hb
            have hs : s = z := beqT hb
            subst hs
            simp only [VR] at hx
            obtain ⟨B, N, C, hp, rfl, hle, hk, hn⟩ := hx
            unfold cutSlice at e
            split at e
            · simp only [VRo] at h3; subst h3
              split at e
              · cases e
              · rename_i hi' hb1
                split at e
                · cases e
                · rename_i lo' hb2
                  have q : ∀ w, (Instr.sliceBounds true len C l' h' none).run c.P w = .ok (lo', hi', C) w := fun w => (bounds2 (P := c.P) (cap := C) hb1 hb2 h2 h1 true hle w).1
                  obtain ⟨_, q1, q2⟩ := bounds2 (P := c.P) (cap := C) hb1 hb2 h2 h1 true hle (default : World)
                  have run : ∀ w, (Instr.sliceAt t (.slice (some ⟨B, off, none⟩) len C) l' h' none).run c.P w = .ok (.slice (some (if C = lo' then (⟨B, off, none⟩ : Addr) else ⟨B, off + lo' * s, none⟩)) (hi' - lo') (C - lo')) w := fun w => by
                    simp only [Instr.sliceAt, Instr.slice, Sem.run_bind, run_under k hd, Result.andThen_ok, q, run_size k hsz, Sem.run_pure]
                    congr 2
                    by_cases hC : C = lo' <;> simp [hC, add_off]
                  have mul1 : lo' * s + (C - lo') * s = C * s := by rw [← Nat.add_mul]; congr 1; omega
                  split at e
                  · rename_i kk
                    obtain rfl := hk kk rfl
                    cases e
                    refine ⟨_, run, ?_⟩
                    by_cases hC : C = lo'
                    · rw [if_pos hC, show Nat.beq C lo' = true by rw [hC]; exact Nat.beq_refl lo']
                      simp only [VR]
                      exact ⟨B, N, _, hp, rfl, by omega, (fun j hj => by cases hj; rfl), (fun hj => by cases hj)⟩
                    · rw [if_neg hC, beqF hC]
                      simp only [VR]
                      exact ⟨B, N, _, hp, rfl, by omega, (fun j hj => by cases hj; rfl), (fun hj => by cases hj)⟩
                  · split at e
                    · rename_i hle2
                      have hle2 := bleT hle2
                      split at e
                      · rename_i h0
                        have h0 := beqT h0
                        cases e
                        refine ⟨_, run, ?_⟩
                        subst h0
                        simp only [VR]
                        refine ⟨B, N, C, hp, ?_, by omega, (fun j hj => by cases hj), fun _ => hn rfl⟩
                        by_cases hC : C = 0 <;> simp [hC]
                      · cases e
                        refine ⟨_, run, ?_⟩
                        simp only [VR]
                        have : hi' - lo' = 0 := by omega
                        rw [this]
                        by_cases hC : C = lo'
                        · rw [if_pos hC]; exact ⟨B, N, off, C - lo', hp, rfl⟩
                        · rw [if_neg hC]; exact ⟨B, N, off + lo' * s, C - lo', hp, rfl⟩
                    · rename_i hlt
                      have hlt : ¬ len ≤ lo' := fun h => by rw [Nat.ble_eq_true_of_le h] at hlt; cases hlt
                      cases e
                      refine ⟨_, run, ?_⟩
                      have hC : ¬ C = lo' := by omega
                      rw [if_neg hC]
                      simp only [VR]
                      have := hn rfl
                      exact ⟨B, N, _, hp, rfl, by omega, (fun j hj => by cases hj), fun _ => by omega⟩
            · rename_i m
              simp only [VRo] at h3
              obtain ⟨mv, rfl, hm⟩ := h3
              split at e
              · rename_i mk mi
                simp only [VR] at hm; subst hm
                split at e
                · cases e
                · rename_i mm hmm
                  obtain ⟨rfl, hmle⟩ := upTo_ok hmm
                  split at e
                  · cases e
                  · rename_i hv
                    simp only [VRo] at h2
                    obtain ⟨hvv, rfl, hh⟩ := h2
                    split at e
                    · rename_i hk2 hi2
                      simp only [VR] at hh; subst hh
                      split at e
                      · cases e
                      · rename_i hn2 hhn
                        obtain ⟨rfl, hhle⟩ := upTo_ok hhn
                        split at e
                        · cases e
                        · rename_i ln hln
                          cases e
                          have b1 : ∀ code w, (Instr.sliceBound (.int mk (mm : Int)) C code).run c.P w = .ok mm w := fun code w => bound_ok mk mm C code (by omega) w
                          have b2 : ∀ code w, (Instr.sliceBound (.int hk2 (hn2 : Int)) mm code).run c.P w = .ok hn2 w := fun code w => bound_ok hk2 hn2 mm code (by omega) w
                          have q : ∀ w, (Instr.sliceBounds true len C l' (some (.int hk2 (hn2 : Int))) (some (.int mk (mm : Int)))).run c.P w = .ok (ln, hn2, mm) w := fun w => by
                            rcases optInt_ok hln h1 with ⟨_, rfl, rfl⟩ | ⟨jk, rfl, hle2, _⟩
                            · simp [Instr.sliceBounds, b1, b2]
                            · simp [Instr.sliceBounds, b1, b2, bound_ok jk ln hn2 _ hle2]
                          have hln2 : ln ≤ hn2 := by
                            rcases optInt_ok hln h1 with ⟨_, _, rfl⟩ | ⟨jk, _, hle2, _⟩
                            · exact Nat.zero_le _
                            · exact hle2
                          have run : ∀ w, (Instr.sliceAt t (.slice (some ⟨B, off, none⟩) len C) l' (some (.int hk2 (hn2 : Int))) (some (.int mk (mm : Int)))).run c.P w = .ok (.slice (some (if mm = ln then (⟨B, off, none⟩ : Addr) else ⟨B, off + ln * s, none⟩)) (hn2 - ln) (mm - ln)) w := fun w => by
                            simp only [Instr.sliceAt, Instr.slice, Sem.run_bind, run_under k hd, Result.andThen_ok, q, run_size k hsz, Sem.run_pure]
                            congr 2
                            by_cases hC : mm = ln <;> simp [hC, add_off]
                          refine ⟨_, run, ?_⟩
                          have mul1 : ln * s + (mm - ln) * s = mm * s := by rw [← Nat.add_mul]; congr 1; omega
                          have mul2 : mm * s ≤ C * s := Nat.mul_le_mul_right s (by omega)
                          by_cases hC : mm = ln
                          · rw [if_pos hC, show Nat.beq mm ln = true by rw [hC]; exact Nat.beq_refl ln]
                            simp only [VR]
                            have h0 : mm - ln = 0 := by omega
                            exact ⟨B, N, _, hp, rfl, by omega, (fun j hj => by cases hj; rfl), (fun hj => by cases hj)⟩
                          · rw [if_neg hC, beqF hC]
                            simp only [VR]
                            exact ⟨B, N, _, hp, rfl, by omega, (fun j hj => by cases hj; rfl), (fun hj => by cases hj)⟩
                    · cases e
              · cases e
          · cases e
        · -- nil
          simp only [VR] at hx; subst hx
          split at e
          · simp only [VRo] at h3; subst h3
            split at e
            · rename_i hh
              split at e
              · rename_i hl
                cases e
                refine ⟨.slice none 0 0, fun w => ?_, by simp only [VR]⟩
                rcases optInt_ok hh h2 with ⟨_, rfl, rfl⟩ | ⟨hk, rfl, hhle, _⟩ <;> rcases optInt_ok hl h1 with ⟨_, rfl, rfl⟩ | ⟨lk, rfl, hlle, _⟩
                all_goals
                  try (obtain rfl := Nat.le_zero.1 hhle)
                  try (obtain rfl := Nat.le_zero.1 hlle)
                  simp [Instr.sliceAt, Instr.slice, run_under k hd, run_size k hsz, Instr.sliceBounds, Instr.sliceBound, asIntOf]
              · cases e
            · cases e
          · split at e
            · cases e
            · split at e
              · cases e
              · rename_i hm
                split at e
                · rename_i hh
                  split at e
                  · rename_i hl
                    cases e
                    refine ⟨.slice none 0 0, fun w => ?_, by simp only [VR]⟩
                    rcases optInt_ok hm h3 with ⟨a, _⟩ | ⟨mk, rfl, hmle, _⟩
                    · cases a
                    · obtain rfl := Nat.le_zero.1 hmle
                      rcases optInt_ok hh h2 with ⟨a, _⟩ | ⟨hk, rfl, hhle, _⟩
                      · cases a
                      · obtain rfl := Nat.le_zero.1 hhle
                        rcases optInt_ok hl h1 with ⟨_, rfl, rfl⟩ | ⟨lk, rfl, hlle, _⟩
                        · simp [Instr.sliceAt, Instr.slice, run_under k hd, run_size k hsz, Instr.sliceBounds, Instr.sliceBound, asIntOf]
                        · obtain rfl := Nat.le_zero.1 hlle
                          simp [Instr.sliceAt, Instr.slice, run_under k hd, run_size k hsz, Instr.sliceBounds, Instr.sliceBound, asIntOf]
                  · cases e
                · cases e
        · -- an empty one
          rename_i id
          simp only [VR] at hx
          obtain ⟨B, N, o, C, hp, rfl⟩ := hx
          split at e
          · simp only [VRo] at h3; subst h3
            split at e
            · rename_i hi' hb1
              split at e
              · rename_i lo' hb2
                cases e
                have q : ∀ w, (Instr.sliceBounds true 0 C l' h' none).run c.P w = .ok (lo', hi', C) w := fun w => (bounds2 (P := c.P) (cap := C) hb1 hb2 h2 h1 true (Nat.zero_le _) w).1
                obtain ⟨_, q1, q2⟩ := bounds2 (P := c.P) (cap := C) hb1 hb2 h2 h1 true (Nat.zero_le _) (default : World)
                have run : ∀ w, (Instr.sliceAt t (.slice (some ⟨B, o, none⟩) 0 C) l' h' none).run c.P w = .ok (.slice (some (if C = lo' then (⟨B, o, none⟩ : Addr) else ⟨B, o + lo' * s, none⟩)) (hi' - lo') (C - lo')) w := fun w => by
                  simp only [Instr.sliceAt, Instr.slice, Sem.run_bind, run_under k hd, Result.andThen_ok, q, run_size k hsz, Sem.run_pure]
                  congr 2
                  by_cases hC : C = lo' <;> simp [hC, add_off]
                refine ⟨_, run, ?_⟩
                simp only [VR]
                have h0 : hi' - lo' = 0 := by omega
                rw [h0]
                by_cases hC : C = lo'
                · rw [if_pos hC]; exact ⟨B, N, o, C - lo', hp, rfl⟩
                · rw [if_neg hC]; exact ⟨B, N, o + lo' * s, C - lo', hp, rfl⟩
              · cases e
            · cases e
          · cases e
        · cases e
      · cases e
    · -- an array behind an address
      rename_i n el
      split at e
      · rename_i s hsz
        split at e
        · rename_i id off
          split at e
          · cases e
          · simp only [VRo] at h3; subst h3
            split at e
            · rename_i hi' hb1
              split at e
              · rename_i lo' hb2
                split at e
                · cases e
                · cases e
                  simp only [VR] at hx
                  obtain ⟨B, N, hp, rfl⟩ := hx
                  have q : ∀ w, (Instr.sliceBounds false n n l' h' none).run c.P w = .ok (lo', hi', n) w := fun w => (bounds2 (P := c.P) (cap := n) hb1 hb2 h2 h1 false (Nat.le_refl _) w).1
                  have run : ∀ w, (Instr.sliceAt t (.pointer (some ⟨B, off, none⟩)) l' h' none).run c.P w = .ok (.slice (some (if n = lo' then (⟨B, off, none⟩ : Addr) else ⟨B, off + lo' * s, none⟩)) (hi' - lo') (n - lo')) w := fun w => by
                    simp only [Instr.sliceAt, Instr.sureAddr, Sem.run_bind, run_under k hd, Result.andThen_ok, q, run_size k hsz, Sem.run_pure]
                    congr 2
                    by_cases hC : n = lo' <;> simp [hC, add_off]
                  obtain ⟨_, q1, q2⟩ := bounds2 (P := c.P) (cap := n) hb1 hb2 h2 h1 false (Nat.le_refl _) (default : World)
                  refine ⟨_, run, ?_⟩
                  by_cases hC : n = lo'
                  · rw [if_pos hC, show Nat.beq n lo' = true by rw [hC]; exact Nat.beq_refl lo']
                    simp only [VR]
                    exact ⟨B, N, _, hp, rfl, by omega, (fun j hj => by cases hj; rfl), (fun hj => by cases hj)⟩
                  · rw [if_neg hC, beqF hC]
                    simp only [VR]
                    exact ⟨B, N, _, hp, rfl, by omega, (fun j hj => by cases hj; rfl), (fun hj => by cases hj)⟩
              · cases e
            · cases e
        · cases e
      · cases e
    · cases e
  · cases e
theorem cutFar_ok {ρ : Map} {g : Heap} {w : World} (hr : HR ρ g w) {t : TypeId} {x v : AV} {lo hi mx : Option AV} {y : Value} {l' h' m' : Option Value} (e : cutFar c g t x lo hi mx = some v) (hx : VR ρ x y) (h1 : VRo ρ lo l') (h2 : VRo ρ hi h') (h3 : VRo ρ mx m') :
    ∃ z, (Instr.sliceAt t y l' h' m').run c.P w = .ok z w ∧ VR ρ v z := by
  unfold cutFar at e
  split at e
  · rename_i id off len cap z
    split at e
    · cases e
    · split at e
      · rename_i d hd
        split at e
        · rename_i el
          split at e
          · rename_i s hsz
            split at e
            · cases e
            · rename_i hb
              have hs : s = z := beqT hb
              subst hs
              split at e
              · cases e
              · rename_i hz0
                have hz0 := beqN hz0
                split at e
                · cases e
                · simp only [VRo] at h3; subst h3
                  split at e
                  · cases e
                  · rename_i hv
                    split at e
                    · cases e
                    · rename_i b hb1
                      split at e
                      · cases e
                      · rename_i l hb2
                        split at e
                        · cases e
                        · rename_i r hrow
                          split at e
                          · cases e
                          · rename_i hle
                            have hle := bleT hle
                            simp only [VR] at hx
                            obtain ⟨B, N, C, hp, rfl, hlc, hk, hn⟩ := hx
                            have hn := hn trivial
                            have ro := hr.rowAt hrow hp
                            have hrN := ro.2.1
                            have hbC : b ≤ C := by
                              have : b * s ≤ C * s := by omega
                              exact Nat.le_of_mul_le_mul_right this (by omega)
                            rcases optInt_ok hb1 h2 with ⟨q, _⟩ | ⟨ik, rfl, _, _⟩
                            · cases q
                            · have b1 : ∀ code w, (Instr.sliceBound (.int ik (b : Int)) C code).run c.P w = .ok b w := fun code w => bound_ok ik b C code hbC w
                              have q : (Instr.sliceBounds true len C l' (some (.int ik (b : Int))) none).run c.P w = .ok (l, b, C) w ∧ l ≤ b := by
                                rcases optInt_ok hb2 h1 with ⟨_, rfl, rfl⟩ | ⟨jk, rfl, hle2, _⟩
                                · exact ⟨by simp [Instr.sliceBounds, b1], Nat.zero_le _⟩
                                · exact ⟨by simp [Instr.sliceBounds, b1, bound_ok jk l b _ hle2], hle2⟩
                              obtain ⟨q, hlb⟩ := q
                              have run : (Instr.sliceAt t (.slice (some ⟨B, off, none⟩) len C) l' (some (.int ik (b : Int))) none).run c.P w = .ok (.slice (some (if C = l then (⟨B, off, none⟩ : Addr) else ⟨B, off + l * s, none⟩)) (b - l) (C - l)) w := by
                                simp only [Instr.sliceAt, Instr.slice, Sem.run_bind, run_under k hd, Result.andThen_ok, q, run_size k hsz, Sem.run_pure]
                                congr 2
                                by_cases hC : C = l <;> simp [hC, add_off]
                              have mul1 : l * s + (C - l) * s = C * s := by rw [← Nat.add_mul]; congr 1; omega
                              refine ⟨_, run, ?_⟩
                              split at e
                              · rename_i hlb2
                                have hlb2 := beqT hlb2
                                cases e
                                simp only [VR]
                                have : b - l = 0 := by omega
                                rw [this]
                                by_cases hC : C = l
                                · rw [if_pos hC]; exact ⟨B, N, off, C - l, hp, rfl⟩
                                · rw [if_neg hC]; exact ⟨B, N, off + l * s, C - l, hp, rfl⟩
                              · rename_i hlb2
                                have hlb2 := beqN hlb2
                                cases e
                                have hC : ¬ C = l := by omega
                                rw [if_neg hC]
                                simp only [VR]
                                exact ⟨B, N, _, hp, rfl, by omega, (fun j hj => by cases hj), fun _ => by omega⟩
          · cases e
        · cases e
      · cases e
  · cases e

theorem sliceH_ok {ρ : Map} {g : Heap} {w : World} (hr : HR ρ g w) {t : TypeId} {x v : AV} {lo hi mx : Option AV} {y : Value} {l' h' m' : Option Value} (e : oSliceH c g t x lo hi mx = some v) (hx : VR ρ x y) (h1 : VRo ρ lo l') (h2 : VRo ρ hi h') (h3 : VRo ρ mx m') :
    ∃ z, (Instr.sliceAt t y l' h' m').run c.P w = .ok z w ∧ VR ρ v z := by
  unfold oSliceH at e
  split at e
  · rename_i u hu
    cases e
    obtain ⟨z, z1, z2⟩ := slice_ok k hu hx h1 h2 h3
    exact ⟨z, z1 w, z2⟩
  · exact cutFar_ok k hr e hx h1 h2 h3

end
end Go.Ax
