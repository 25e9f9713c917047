/-
  AxS: one operation: the evaluator's against the model's.
-/
import Derived.Test.YtaopfnhkfedemaaGreatDoorAxR
set_option linter.unusedVariables false
set_option linter.unusedSimpArgs false
namespace Go.Ax

/-- what an operation hands on -/
def NR (ρ : Map) (v : AV) (nx : Next) : Prop := (∃ z, nx = .value z ∧ VR ρ v z) ∨ (nx = .skip ∧ VR ρ v undef)

theorem und_ok (ρ : Map) : VR ρ und undef := by unfold und undef; simp only [VR]; exact ⟨[], by simp [VRs], rfl⟩

section
variable {c : Ctx} (k : CtxOk c)
include k

theorem builtin_ok {ρ : Map} {h h' : Heap} {w : World} (hr : HR ρ h w) (wf : WF h) (fr : Free ρ h.nxt h'.nxt) {b : Builtin} {ts : Array TypeId} {l : List AV} {L : List Value} {v : AV} (e : oBuiltin c h b ts l = some (.v v h')) (hl : VRs ρ l L)
    (ty : TypeId) (cs : Array Bool) : ∃ z w' ρ', (builtin b ts ty cs L.toArray).run c.P w = .ok (.value z) w' ∧ Good ρ h w ρ' h' w' ∧ VR ρ' v z := by
  unfold oBuiltin at e
  have lift : ∀ {s : Sem Value} {z w'}, s.run c.P w = .ok z w' → (do pure (.value (← s)) : Sem Next).run c.P w = .ok (.value z) w' := fun q => by simp [q]
  split at e
  · -- len
    split at e
    · rename_i x r
      simp only [VRs] at hl
      obtain ⟨X, R, hx, _, rfl⟩ := hl
      split at e
      · rename_i t ht
        rw [nth_eq] at ht
        split at e
        · rename_i u hu
          cases e
          obtain ⟨z, z1, z2⟩ := len_ok k hr hu hx ts (by simpa using ht) ty R
          exact ⟨z, w, ρ, lift z1, Good.refl hr wf, z2⟩
        · cases e
      · cases e
    · cases e
  · -- cap
    split at e
    · rename_i x r
      simp only [VRs] at hl
      obtain ⟨X, R, hx, _, rfl⟩ := hl
      split at e
      · rename_i t ht
        rw [nth_eq] at ht
        split at e
        · rename_i u hu
          cases e
          obtain ⟨z, z1, z2⟩ := cap_ok k (w := w) hu hx ts (by simpa using ht) ty R
          exact ⟨z, w, ρ, lift z1, Good.refl hr wf, z2⟩
        · cases e
      · cases e
    · cases e
  · -- append
    split at e
    · rename_i s r
      split at e
      · rename_i x r
        simp only [VRs] at hl
        obtain ⟨S, _, hs, ⟨X, R, hx, _, rfl⟩, rfl⟩ := hl
        split at e
        · rename_i t ht
          rw [nth_eq] at ht
          split at e
          · rename_i t1 ht1
            rw [nth_eq] at ht1
            split at e
            · rename_i d hd
              have hu1 := under_eq k hd
              split at e
              · split at e
                · rename_i u h1 hu
                  cases e
                  obtain ⟨z, w', ρ', z1, z2, z3⟩ := appendZ_ok k hr wf fr hu hs hx ts (by simpa using ht) (by simpa using ht1) hu1 ty R
                  exact ⟨z, w', ρ', lift z1, z2, z3⟩
                · cases e
              · rename_i hni
                split at e
                · rename_i u h1 hu
                  cases e
                  obtain ⟨z, w', ρ', z1, z2, z3⟩ := append_ok k hr wf fr hu hs hx ts (by simpa using ht) (by simpa using ht1) hu1 (fun kk q => hni kk q) ty R
                  exact ⟨z, w', ρ', lift z1, z2, z3⟩
                · cases e
            · cases e
          · cases e
        · cases e
      · cases e
    · cases e
  · -- copy
    split at e
    · rename_i s r
      split at e
      · rename_i x r
        simp only [VRs] at hl
        obtain ⟨S, _, hs, ⟨X, R, hx, _, rfl⟩, rfl⟩ := hl
        split at e
        · rename_i t ht
          rw [nth_eq] at ht
          split at e
          · rename_i u h1 hu
            cases e
            obtain ⟨z, w', z1, z2, z3⟩ := copy_ok k hr wf hu hs hx ts (by simpa using ht) ty R
            exact ⟨z, w', ρ, lift z1, z2, z3⟩
          · cases e
        · cases e
      · cases e
    · cases e
  · -- delete
    split at e
    · rename_i s r
      split at e
      · rename_i x r
        simp only [VRs] at hl
        obtain ⟨S, _, hs, ⟨X, R, hx, _, rfl⟩, rfl⟩ := hl
        split at e
        · rename_i t ht
          rw [nth_eq] at ht
          split at e
          · rename_i h1 hu
            cases e
            obtain ⟨w', z1, z2⟩ := delete_ok k hr wf hu hs hx ts (by simpa using ht) ty R
            exact ⟨_, w', ρ, lift z1, z2, und_ok ρ⟩
          · cases e
        · cases e
      · cases e
    · cases e
  · -- clear
    split at e
    · rename_i x r
      simp only [VRs] at hl
      obtain ⟨X, R, hx, _, rfl⟩ := hl
      split at e
      · rename_i t ht
        rw [nth_eq] at ht
        split at e
        · rename_i h1 hu
          cases e
          obtain ⟨w', z1, z2⟩ := clear_ok k hr wf hu hx ts (by simpa using ht) ty R
          exact ⟨_, w', ρ, lift z1, z2, und_ok ρ⟩
        · cases e
      · cases e
    · cases e
  · -- unsafe.String
    split at e
    · rename_i p r
      split at e
      · rename_i n r2
        split at e
        · simp only [VRs] at hl
          obtain ⟨X, _, hx, ⟨Y, _, hy, rfl, rfl⟩, rfl⟩ := hl
          split at e
          · rename_i pt ht
            rw [nth_eq] at ht
            split at e
            · rename_i u h1 hu
              cases e
              obtain ⟨z, w', z1, z2, z3⟩ := ustr_ok k hr wf hu hx hy ts (by simpa using ht) ty
              exact ⟨z, w', ρ, lift z1, z2, z3⟩
            · cases e
          · cases e
        · cases e
      · cases e
    · cases e
  · -- unsafe.SliceData
    split at e
    · rename_i x r
      split at e
      · simp only [VRs] at hl
        obtain ⟨X, _, hx, rfl, rfl⟩ := hl
        split at e
        · rename_i u hu
          cases e
          obtain ⟨z, z1, z2⟩ := sdata_ok (P := c.P) (w := w) hu hx ts ty
          exact ⟨z, w, ρ, lift z1, Good.refl hr wf, z2⟩
        · cases e
      · cases e
    · cases e
  · -- min
    split at e
    · rename_i u hu
      cases e
      cases l with
      | nil => cases hu
      | cons x l =>
        simp only [VRs] at hl
        obtain ⟨X, R, hx, hl, rfl⟩ := hl
        obtain ⟨z, z1, z2⟩ := min_ok (P := c.P) false l R x X v hl hx hu w
        refine ⟨z, w, ρ, lift ?_, Good.refl hr wf, z2⟩
        simpa [Builtin.min_] using z1
    · cases e
  · split at e
    · rename_i u hu
      cases e
      cases l with
      | nil => cases hu
      | cons x l =>
        simp only [VRs] at hl
        obtain ⟨X, R, hx, hl, rfl⟩ := hl
        obtain ⟨z, z1, z2⟩ := min_ok (P := c.P) true l R x X v hl hx hu w
        refine ⟨z, w, ρ, lift ?_, Good.refl hr wf, z2⟩
        simpa [Builtin.max_] using z1
    · cases e
  · cases e
end
end Go.Ax
