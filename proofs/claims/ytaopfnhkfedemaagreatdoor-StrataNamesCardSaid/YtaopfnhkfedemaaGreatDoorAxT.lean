/-
  AxT: one operation, whichever.
-/
import Derived.Test.YtaopfnhkfedemaaGreatDoorAxS
set_option linter.unusedVariables false
set_option linter.unusedSimpArgs false
namespace Go.Ax

theorem val_eq {h h' : Heap} {r : Option AV} {v : AV} (e : val h r = some (.v v h')) : r = some v ∧ h' = h := by
  unfold val at e; split at e
  · cases e; exact ⟨rfl, rfl⟩
  · cases e
theorem valH_eq {h' : Heap} {r : Option (AV × Heap)} {v : AV} (e : valH r = some (.v v h')) : r = some (v, h') := by
  unfold valH at e; split at e
  · cases e; rfl
  · cases e
theorem unit_eq {h' : Heap} {r : Option Heap} {v : AV} (e : unit r = some (.v v h')) : r = some h' ∧ v = und := by
  unfold unit at e; split at e
  · cases e; exact ⟨rfl, rfl⟩
  · cases e

/-! an allocating operation gives one number -/
theorem box_nxt {h h' : Heap} {t : TypeId} {a v : AV} (e : oBox h t a = some (v, h')) : h'.nxt = h.nxt + 1 := by
  unfold oBox at e; cases a <;> simp at e <;> (obtain ⟨_, rfl⟩ := e; rfl)
theorem alloc_nxt {c : Ctx} {h h' : Heap} {t : TypeId} {v : AV} (e : oAlloc c h t = some (v, h')) : h'.nxt = h.nxt + 1 := by
  unfold oAlloc at e; split at e
  · exact box_nxt e
  · cases e
theorem makeMap_nxt {c : Ctx} {h h' : Heap} {t : TypeId} {r : Option AV} {v : AV} (e : oMakeMap c h t r = some (v, h')) : h'.nxt = h.nxt + 1 := by
  unfold oMakeMap at e
  repeat' (split at e)
  all_goals first | (cases e; done) | (cases e; rfl)
theorem makeSlice_nxt {c : Ctx} {h h' : Heap} {t : TypeId} {l kk v : AV} (e : oMakeSlice c h t l kk = some (v, h')) : h'.nxt = h.nxt + 1 := by
  unfold oMakeSlice at e
  repeat' (split at e)
  all_goals first | (cases e; done) | (cases e; rfl)
theorem buildSlice_nxt {c : Ctx} {h h' : Heap} {t : TypeId} {n : Nat} {ps : List (Nat × AV)} {v : AV} (e : oBuildSlice c h t n ps = some (v, h')) : h'.nxt = h.nxt + 1 := by
  unfold oBuildSlice at e
  repeat' (split at e)
  all_goals first | (cases e; done) | (cases e; rfl)
theorem range_nxt {c : Ctx} {h h' : Heap} {t : TypeId} {x v : AV} (e : oRange c h t x = some (v, h')) : h'.nxt = h.nxt + 1 := by
  unfold oRange at e
  repeat' (split at e)
  all_goals first | (cases e; done) | (cases e; rfl)

section
variable {c : Ctx} (k : CtxOk c)
include k

theorem opA_ok {ρ : Map} {h h' : Heap} {w : World} (hr : HR ρ h w) (wf : WF h) (fr : Free ρ h.nxt h'.nxt) {o : Oper} {a : Act} {sz : Nat} {e : T AV} (er : ER ρ e a.tmps sz) {v : AV} (he : opA c e h o.op = some (.v v h')) :
    ∃ nx w' ρ', (execOp a.eval o).run c.P w = .ok nx w' ∧ Good ρ h w ρ' h' w' ∧ NR ρ' v nx := by
  have ev := fun x => ev_ok er x
  have evo := fun x => evo_ok er x
  have fr0 : h'.nxt = h.nxt + 1 → ρ h.nxt = none := fun q => fr _ (Nat.le_refl _) (by omega)
  -- a value, the world as it was
  have pure1 : ∀ {s : Sem Value}, execOp a.eval o = (do pure (.value (← s))) → (∃ z, s.run c.P w = .ok z w ∧ VR ρ v z) → h' = h → ∃ nx w' ρ', (execOp a.eval o).run c.P w = .ok nx w' ∧ Good ρ h w ρ' h' w' ∧ NR ρ' v nx := fun q1 q2 q3 => by
    obtain ⟨z, z1, z2⟩ := q2
    subst q3
    exact ⟨.value z, w, ρ, by rw [q1]; simp [z1], Good.refl hr wf, .inl ⟨z, rfl, z2⟩⟩
  have pure2 : ∀ {s : Sem Value}, execOp a.eval o = (do pure (.value (← s))) → (∃ z w' ρ', s.run c.P w = .ok z w' ∧ Good ρ h w ρ' h' w' ∧ VR ρ' v z) → ∃ nx w' ρ', (execOp a.eval o).run c.P w = .ok nx w' ∧ Good ρ h w ρ' h' w' ∧ NR ρ' v nx := fun q1 q2 => by
    obtain ⟨z, w', ρ', z1, z2, z3⟩ := q2
    exact ⟨.value z, w', ρ', by rw [q1]; simp [z1], z2, .inl ⟨z, rfl, z3⟩⟩
  have pure3 : ∀ {s : Sem Unit}, execOp a.eval o = (do s; pure .skip) → (∃ w', s.run c.P w = .ok () w' ∧ Good ρ h w ρ h' w') → v = und → ∃ nx w' ρ', (execOp a.eval o).run c.P w = .ok nx w' ∧ Good ρ h w ρ' h' w' ∧ NR ρ' v nx := fun q1 q2 q3 => by
    obtain ⟨w', z1, z2⟩ := q2
    subst q3
    exact ⟨.skip, w', ρ, by rw [q1]; simp [z1], z2, .inr ⟨rfl, und_ok ρ⟩⟩
  cases ho : o.op <;> rw [ho] at he <;> simp only [opA] at he <;> try (cases he; done)
  case move x =>
    cases he
    exact ⟨.value (a.eval x), w, ρ, by simp [execOp, ho], Good.refl hr wf, .inl ⟨_, rfl, ev x⟩⟩
  case assign x =>
    cases he
    exact ⟨.value (a.eval x), w, ρ, by simp [execOp, ho], Good.refl hr wf, .inl ⟨_, rfl, ev x⟩⟩
  case pick b x y =>
    split at he
    · rename_i bb hb
      have hb' := ev b
      rw [hb] at hb'
      simp only [VR] at hb'
      cases he
      refine ⟨.value (if bb then a.eval x else a.eval y), w, ρ, by simp [execOp, ho, hb', asBool], Good.refl hr wf, .inl ⟨_, rfl, ?_⟩⟩
      cases bb
      · exact ev y
      · exact ev x
    · cases he
  case alloc t => exact pure2 (s := Instr.alloc t true (.tuple #[])) (by simp only [execOp, ho]) (alloc_ok k hr wf (fr0 (alloc_nxt (valH_eq he))) (valH_eq he) _)
  case box t x => exact pure2 (by simp only [execOp, ho]) (box_ok (P := c.P) hr wf (fr0 (box_nxt (valH_eq he))) (valH_eq he) (ev x))
  case build t ps =>
    obtain ⟨q1, q2⟩ := val_eq he
    obtain ⟨z, z1, z2⟩ := build_ok k q1 (parts_ok er ps)
    exact pure1 (by simp only [execOp, ho]) ⟨z, z1 w, z2⟩ q2
  case buildSlice t n ps => exact pure2 (by simp only [execOp, ho]) (buildSlice_ok k hr wf (fr0 (buildSlice_nxt (valH_eq he))) (valH_eq he) (parts_ok er ps))
  case load t x =>
    obtain ⟨q1, q2⟩ := val_eq he
    exact pure1 (by simp only [execOp, ho]) (load_ok k hr q1 (ev x)) q2
  case store t x y =>
    obtain ⟨q1, q2⟩ := unit_eq he
    exact pure3 (by simp only [execOp, ho]) (store_ok k hr wf q1 (ev x) (ev y)) q2
  case nilCheck x =>
    obtain ⟨q1, q2⟩ := val_eq he
    subst q2
    obtain ⟨z1, z2⟩ := nilCheck_ok (c := c) q1 (ev x) o x a ho rfl w
    exact ⟨_, w, ρ, z1, Good.refl hr wf, .inl ⟨_, rfl, z2⟩⟩
  case binOp op t x y _ =>
    obtain ⟨q1, q2⟩ := val_eq he
    exact pure1 (by simp only [execOp, ho]) (binX_ok k (t2 := t) q1 (ev x) (ev y) w) q2
  case unOp op _ x =>
    obtain ⟨q1, q2⟩ := val_eq he
    exact pure1 (by simp only [execOp, ho]) (un_ok q1 (ev x) w) q2
  case convert s t x => exact pure2 (by simp only [execOp, ho]) (convert_ok k hr wf fr (valH_eq he) (ev x))
  case sliceToArrayPointer t x =>
    obtain ⟨q1, q2⟩ := val_eq he
    obtain ⟨z, z1, z2⟩ := toArrayPtr_ok k q1 (ev x)
    exact pure1 (by simp only [execOp, ho]) ⟨z, z1 w, z2⟩ q2
  case makeInterface t x =>
    obtain ⟨q1, q2⟩ := val_eq he
    obtain ⟨z, z1, z2⟩ := makeInterface_ok k q1 (ev x)
    exact pure1 (by simp only [execOp, ho]) ⟨z, z1 w, z2⟩ q2
  case makeMap t r => exact pure2 (by simp only [execOp, ho]) (makeMap_ok k hr wf (fr0 (makeMap_nxt (valH_eq he))) (valH_eq he) (evo r))
  case makeSlice t l kk => exact pure2 (by simp only [execOp, ho]) (makeSlice_ok k hr wf (fr0 (makeSlice_nxt (valH_eq he))) (valH_eq he) (ev l) (ev kk))
  case slice t x lo hi mx =>
    obtain ⟨q1, q2⟩ := val_eq he
    exact pure1 (by simp only [execOp, ho]) (sliceH_ok k hr q1 (ev x) (evo lo) (evo hi) (evo mx)) q2
  case fieldAddr t x i =>
    obtain ⟨q1, q2⟩ := val_eq he
    obtain ⟨z, z1, z2⟩ := fieldAddr_ok k q1 (ev x)
    exact pure1 (by simp only [execOp, ho]) ⟨z, z1 w, z2⟩ q2
  case field t x i =>
    obtain ⟨q1, q2⟩ := val_eq he
    obtain ⟨z, z1, z2⟩ := field_ok k q1 (ev x)
    exact pure1 (by simp only [execOp, ho]) ⟨z, z1 w, z2⟩ q2
  case indexAddr t x i =>
    obtain ⟨q1, q2⟩ := val_eq he
    obtain ⟨z, z1, z2⟩ := indexAddr_ok k q1 (ev x) (ev i)
    exact pure1 (by simp only [execOp, ho]) ⟨z, z1 w, z2⟩ q2
  case index t x i =>
    obtain ⟨q1, q2⟩ := val_eq he
    obtain ⟨z, z1, z2⟩ := index_ok k q1 (ev x) (ev i)
    exact pure1 (by simp only [execOp, ho]) ⟨z, z1 w, z2⟩ q2
  case lookup t x y ok =>
    obtain ⟨q1, q2⟩ := val_eq he
    exact pure1 (by simp only [execOp, ho]) (lookup_ok k hr q1 (ev x) (ev y)) q2
  case mapUpdate t m kk x =>
    obtain ⟨q1, q2⟩ := unit_eq he
    exact pure3 (by simp only [execOp, ho]) (mapUpdate_ok k hr wf q1 (ev m) (ev kk) (ev x)) q2
  case insert t m kk x =>
    obtain ⟨q1, q2⟩ := unit_eq he
    exact pure3 (by simp only [execOp, ho]) (mapUpdate_ok k hr wf q1 (ev m) (ev kk) (ev x)) q2
  case mapEntry t m kk =>
    obtain ⟨z, w', z1, z2, z3⟩ := mapEntry_ok k hr wf (valH_eq he) (ev m) (ev kk)
    exact pure2 (by simp only [execOp, ho]) ⟨z, w', ρ, z1, z2, z3⟩
  case entryStore t m s x =>
    obtain ⟨q1, q2⟩ := unit_eq he
    exact pure3 (by simp only [execOp, ho]) (entryStore_ok hr wf q1 (ev m) (ev s) (ev x) t) q2
  case range t x => exact pure2 (by simp only [execOp, ho]) (range_ok k hr wf (fr0 (range_nxt (valH_eq he))) (valH_eq he) (ev x))
  case next x s =>
    obtain ⟨z, w', z1, z2, z3⟩ := next_ok (P := c.P) hr wf (valH_eq he) (ev x) o.type
    exact pure2 (by simp only [execOp, ho]) ⟨z, w', ρ, z1, z2, z3⟩
  case entry x =>
    obtain ⟨q1, q2⟩ := val_eq he
    exact pure1 (by simp only [execOp, ho]) (entry_ok hr q1 (ev x)) q2
  case extract x i =>
    obtain ⟨q1, q2⟩ := val_eq he
    exact pure1 (by simp only [execOp, ho]) (extract_ok q1 (ev x) w) q2
  case makeFunc f first cap =>
    split at he
    · rename_i f
      cases he
      refine ⟨.value (.func (.func f) (first.map a.eval) (cap.map a.eval)), w, ρ, by simp [execOp, ho, Instr.makeFunc], Good.refl hr wf, .inl ⟨_, rfl, ?_⟩⟩
      simp only [VR, FR]
      refine ⟨_, _, _, rfl, evs_ok er first.toList, evs_ok er cap.toList, ?_⟩
      congr 1 <;> (apply Array.ext'; simp)
    · cases he
  case call cl =>
    unfold oCall at he
    cases hc : cl.callee with
    | builtin b =>
      rw [hc] at he
      simp only [] at he
      obtain ⟨CS, hCS⟩ : ∃ CS, (execOp a.eval o).run c.P w = (builtin b cl.argTypes o.type CS (cl.args.map a.eval)).run c.P w :=
        ⟨_, by simp only [execOp, ho, resolve, hc, Sem.run_bind, Sem.run_pure, Result.andThen_ok, invoke]; rfl⟩
      obtain ⟨z, w', ρ', z1, z2, z3⟩ := builtin_ok k hr wf fr he (evs_ok er cl.args.toList) o.type CS
      refine ⟨.value z, w', ρ', ?_, z2, .inl ⟨z, rfl, z3⟩⟩
      have : (cl.args.toList.map a.eval).toArray = cl.args.map a.eval := by apply Array.ext'; simp
      rw [this] at z1
      rw [hCS]; exact z1
    | value f =>
      rw [hc] at he
      simp only [] at he
      split at he
      · split at he <;> cases he
      · cases he
    | invoke x y => rw [hc] at he; cases he
end
end Go.Ax
