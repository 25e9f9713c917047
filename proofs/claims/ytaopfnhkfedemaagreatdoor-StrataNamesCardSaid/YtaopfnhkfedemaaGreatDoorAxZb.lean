/-
  AxZb: whatever order is drawn: each step.
-/
import Derived.Test.YtaopfnhkfedemaaGreatDoorAxZa
set_option linter.unusedVariables false
set_option linter.unusedSimpArgs false
namespace Go.Ax

section
variable {c : Ctx} (k : CtxOk c)
include k

theorem convertL_ok {ρ : Map} {h h' : Heap} {w : World} (hr : HR ρ h w) {s t : TypeId} {x v : AV} {X : Value} (hns : ∀ d, c.under t = some d → ∀ e, d ≠ .slice e) (e : oConvert c h s t x = some (v, h')) (hx : VR ρ x X) :
    ∃ z, (convert s t X).run c.P w = .ok z w ∧ VR ρ v z := by
  unfold oConvert at e
  split at e
  · cases e
  · rename_i ds hds
    have us := under_eq k hds
    split at e
    · cases e
    · rename_i dt hdt
      have ut := under_eq k hdt
      split at e
      · rename_i ik
        split at e
        · rename_i jk n
          cases e
          simp only [VR] at hx; subst hx
          exact ⟨.int ik (ik.wrap n), by simp [convert, run_underlying us, run_underlying ut, Conv.intToInt], by simp only [VR, wr_eq]⟩
        · cases e
      · split at e
        · rename_i u hu
          cases e
          exact convToU_ok k hr us ut hu hx
        · cases e
      · split at e
        · rename_i u hu
          cases e
          exact convToP_ok k hr us ut hu hx
        · cases e
      · split at e
        · split at e
          · rename_i l
            cases e
            simp only [VR] at hx; subst hx
            exact ⟨.string (bs l), by simp [convert, run_underlying us, run_underlying ut], by simp only [VR]⟩
          · cases e
        · rename_i el
          split at e
          · rename_i de hde
            have ue := under_eq k hde
            split at e
            · split at e
              · split at e
                · -- nil
                  cases e
                  simp only [VR] at hx; subst hx
                  refine ⟨.string ByteArray.empty, ?_, by simp only [VR]; rfl⟩
                  rw [run_convert_bytes_string w s t el _ _ _ us ue ut]
                  simp [Conv.bytesToString]
                · cases e
                  simp only [VR] at hx
                  obtain ⟨B, N, o, C, hp, rfl⟩ := hx
                  refine ⟨.string ByteArray.empty, ?_, by simp only [VR]; rfl⟩
                  rw [run_convert_bytes_string w s t el _ _ _ us ue ut]
                  rw [run_bytesToString w _ 0 C [] (by simp [loadCells, loadCellsFrom])]
                  rfl
                · rename_i id off len cap z
                  split at e
                  · rename_i hz
                    split at e
                    · rename_i r hrow
                      split at e
                      · rename_i hb
                        have hb := bleT hb
                        split at e
                        · rename_i l hl
                          cases e
                          simp only [VR] at hx
                          obtain ⟨B, N, C, hp, rfl, _⟩ := hx
                          have ro := hr.rowAt hrow hp
                          obtain ⟨L, l1, l2, l3⟩ := RowOk.reads ro len off hb
                          obtain ⟨ns, n1, n2⟩ := bytesA_ok _ L l hl l1
                          have hld := run_loadCells_list (P := c.P) w ⟨B, off, none⟩ L (fun j v hv => by rw [add_off]; exact l3 j v hv)
                          rw [l2, n1] at hld
                          refine ⟨.string (bs l), ?_, by simp only [VR]⟩
                          rw [run_convert_bytes_string w s t el _ _ _ us ue ut, run_bytesToString w _ len C ns hld, foldl_push_ints, n2]
                          have he0 : ByteArray.empty.data = #[] := rfl
                          rw [he0]
                          simp [bs]
                        · cases e
                      · cases e
                    · cases e
                  · cases e
                · cases e
              · cases e
            · cases e
          · cases e
        · cases e
      · rename_i el
        exact absurd rfl (hns _ hdt el)
      · cases e

/-- reading turns nothing -/
theorem light_ok {ρ : Map} {h h' : Heap} {w : World} (hr : HR ρ h w) {o : Oper} {a : Act} {sz : Nat} {e : T AV} (er : ER ρ e a.tmps sz) {v : AV} (hc : cls c o.op = .light) (he : opA c e h o.op = some (.v v h')) :
    ∃ nx, (execOp a.eval o).run c.P w = .ok nx w ∧ NR ρ v nx := by
  have ev := fun x => ev_ok er x
  have pure1 : ∀ {s : Sem Value}, execOp a.eval o = (do pure (.value (← s))) → (∃ z, s.run c.P w = .ok z w ∧ VR ρ v z) → ∃ nx, (execOp a.eval o).run c.P w = .ok nx w ∧ NR ρ v nx := fun q1 q2 => by
    obtain ⟨z, z1, z2⟩ := q2
    exact ⟨.value z, by rw [q1]; simp [z1], .inl ⟨z, rfl, z2⟩⟩
  cases ho : o.op <;> rw [ho] at he hc <;> simp only [cls] at hc <;> try (cases hc; done)
  case load t x =>
    simp only [opA] at he
    obtain ⟨q1, q2⟩ := val_eq he
    exact pure1 (by simp only [execOp, ho]) (load_ok k hr q1 (ev x))
  case slice t x lo hi mx =>
    simp only [opA] at he
    obtain ⟨q1, q2⟩ := val_eq he
    exact pure1 (by simp only [execOp, ho]) (sliceH_ok k hr q1 (ev x) (evo_ok er lo) (evo_ok er hi) (evo_ok er mx))
  case lookup t x y ok =>
    simp only [opA] at he
    obtain ⟨q1, q2⟩ := val_eq he
    exact pure1 (by simp only [execOp, ho]) (lookup_ok k hr q1 (ev x) (ev y))
  case entry x =>
    simp only [opA] at he
    obtain ⟨q1, q2⟩ := val_eq he
    exact pure1 (by simp only [execOp, ho]) (entry_ok hr q1 (ev x))
  case convert s t x =>
    simp only [opA] at he
    refine pure1 (by simp only [execOp, ho]) (convertL_ok k hr (fun d hd el hde => ?_) (valH_eq he) (ev x))
    rw [hd, hde] at hc; cases hc
  case call cl =>
    cases hk : cl.callee with
    | value f => rw [hk] at hc; cases hc
    | invoke f m => rw [hk] at hc; cases hc
    | builtin b =>
      rw [hk] at hc
      cases b <;> simp only [] at hc <;> try (cases hc; done)
      simp only [opA, oCall, hk, oBuiltin] at he
      split at he
      · rename_i x r hl
        split at he
        · rename_i t ht
          rw [nth_eq] at ht
          split at he
          · rename_i u hu
            cases he
            have hL := evs_ok er cl.args.toList
            rw [hl] at hL
            cases hA : cl.args.toList.map a.eval with
            | nil => rw [hA] at hL; simp [VRs] at hL
            | cons X R =>
              rw [hA] at hL
              simp only [VRs] at hL
              obtain ⟨_, _, hx, _, hXR⟩ := hL
              cases hXR
              obtain ⟨z, z1, z2⟩ := len_ok k hr hu hx cl.argTypes (by simpa using ht) o.type R
              obtain ⟨CS, hCS⟩ : ∃ CS, (execOp a.eval o).run c.P w = (builtin .len cl.argTypes o.type CS (cl.args.map a.eval)).run c.P w :=
                ⟨_, by simp only [execOp, ho, resolve, hk, Sem.run_bind, Sem.run_pure, Result.andThen_ok, invoke]; rfl⟩
              have hargs : cl.args.map a.eval = (X :: R).toArray := by rw [← hA]; apply Array.ext'; simp
              refine ⟨.value z, ?_, .inl ⟨z, rfl, z2⟩⟩
              rw [hCS, hargs]
              unfold builtin
              simp [z1]
          · cases he
        · cases he
      · cases he
end
end Go.Ax
