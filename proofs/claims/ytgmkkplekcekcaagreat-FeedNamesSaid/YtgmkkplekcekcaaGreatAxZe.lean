/-
  AxZe: a closed function that the evaluator has run: what its call comes to.
-/
import Derived.Test.YtgmkkplekcekcaaGreatAxZd
set_option linter.unusedVariables false
set_option linter.unusedSimpArgs false
namespace Go.Ax

/-- are values of a type compared without asking for more -/
def eqOk (P : Program) (t : TypeId) : Bool :=
  !P.stoodInHeld t && !P.eqGuardType P.depth t && (match P.underlying t with | some (.struct fs) => fs.toList.all (fun f => !(f.name == "_")) | _ => true)
noncomputable def ctxOf (P : Program) : Ctx := ⟨P, ofL P.types.toList, ofL P.funcs.toList, T.put false ((List.range P.types.size).map (eqOk P)) .leaf 0⟩
def namesOk (P : Program) : Bool := P.funcs.toList.all fun fn => !(fn.name == "runtime.NumGoroutine")

theorem ctxOf_ok {P : Program} (hn : namesOk P = true) : CtxOk (ctxOf P) := by
  refine ⟨fun t i h => ?_, fun f fn h => ?_, fun f fn h => ?_, fun t h => ?_⟩
  · have h1 : (ofL P.types.toList).get none t = some i := h
    rw [get_ofL] at h1
    have h2 : P.types[t]? = some i := by simpa using h1
    have h3 : P.info? t = some i := by unfold Tables.info?; rw [if_pos (Array.getElem?_eq_some_iff.1 h2).1]; exact h2
    exact h3
  · have h1 : (ofL P.funcs.toList).get none f = some fn := h
    rw [get_ofL] at h1
    have h2 : P.funcs[f]? = some fn := by simpa using h1
    exact h2
  · unfold namesOk at hn
    rw [List.all_eq_true] at hn
    have h1 : P.funcs[f]? = some fn := h
    have := hn fn (by
      obtain ⟨a, b⟩ := Array.getElem?_eq_some_iff.1 h1
      rw [← b]; simp)
    simpa using this
  · have h1 : T.get false (T.put false ((List.range P.types.size).map (eqOk P)) .leaf 0) t = true := h
    rw [get_put] at h1
    simp only [Nat.zero_le, if_true, Nat.sub_zero, get_leaf] at h1
    cases hq : ((List.range P.types.size).map (eqOk P))[t]? with
    | none => rw [hq] at h1; simp at h1
    | some b =>
      rw [hq] at h1
      simp at h1; subst h1
      rw [List.getElem?_map] at hq
      cases hr : (List.range P.types.size)[t]? with
      | none => rw [hr] at hq; cases hq
      | some x =>
        rw [hr] at hq
        have hx : x = t := by
          rw [List.getElem?_range] at hr
          · cases hr; rfl
          · by_cases hlt : t < P.types.size
            · exact hlt
            · rw [List.getElem?_eq_none (by simpa using hlt)] at hr; cases hr
        subst hx
        simp only [Option.map_some, Option.some.injEq] at hq
        unfold eqOk at hq
        rw [Bool.and_eq_true, Bool.and_eq_true] at hq
        obtain ⟨⟨q1, q2⟩, q3⟩ := hq
        have q1' : P.stoodInHeld x = false := by simpa using q1
        have q2' : P.eqGuardType P.depth x = false := by simpa using q2
        refine ⟨q1', q2', fun fs hfs f hf => ?_⟩
        have hP : (ctxOf P).P = P := rfl
        rw [hP] at hfs
        rw [hfs] at q3
        simp only [] at q3
        rw [List.all_eq_true] at q3
        simpa using q3 f hf

theorem isTrue_spec {r : Ans} (h : r.isTrue = true) : ∃ h', r = .ok (.bool true) h' := by
  unfold Ans.isTrue at h
  cases r with
  | bad l => cases h
  | ok v h' =>
    simp only [] at h
    cases v <;> simp only [] at h <;> try (cases h; done)
    subst h; exact ⟨h', rfl⟩

def noExt : Ext := fun _ _ _ _ _ => .bad ["extern"]
theorem noExt_ok (c : Ctx) : ExtOk c noExt := by
  intro app ha f fn args h v h' he
  cases he

/-- what a call of a closed function leaves of the world -/
def Left0 (w w' : World) : Prop := w'.os = w.os ∧ w'.output = w.output ∧ w.heap.size ≤ w'.heap.size ∧ ∀ b, b < w.heap.size → w'.heap[b]? = w.heap[b]?

theorem Left0.kept {w w' : World} (h : Left0 w w') (may : MemPlace → Prop) : w.keptBut w' may := by
  refine ⟨h.1, h.2.1, fun i hi => ?_⟩
  have := (World.keptBut_refl w may).2.2 i hi
  rw [h.2.2.2 i hi]
  exact this

theorem empty_hr (w : World) : HR (fun _ => none) h0 w := ⟨(fun i B N e => by cases e), (fun i B N e => by cases e), (fun i j B N M _ e => by cases e)⟩
theorem empty_wf : WF h0 := by
  refine ⟨fun i _ => get_tab4 _ i, fun i r q e => ?_, fun i r q t e => ?_, fun q _ => rfl⟩
  · have : h0.get i = .none := get_tab4 _ i
    rw [this] at e; cases e
  · have : h0.get i = .none := get_tab4 _ i
    rw [this] at e; cases e

theorem closed_calls {P : Program} (hn : namesOk P = true) (hm : P.follows .mixedOrders = true) {ext : Ext} (hx : ExtOk (ctxOf P) ext) {f : FuncId} {fn : Func} (hf : P.funcs[f]? = some fn) (hb : fn.body.isSome = true) {lim n : Nat}
    (hrun : (app (ctxOf P) drawA lim ext n (.f f) [] h0).isTrue = true) (w : World) : Calls P f #[] w fun e w' => e = .returned (.bool true) ∧ Left0 w w' := by
  obtain ⟨h', hr⟩ := isTrue_spec hrun
  have k := ctxOf_ok hn
  obtain ⟨nx, w1, q1, q2⟩ := app_ok k (drawA_sound k hm) hx n (.f f) [] h0 (.bool true) h' hr (fun _ => none) w [] (empty_hr w) empty_wf (fun _ _ => rfl) (by simp [VRs])
  obtain ⟨bd, hbd⟩ := Option.isSome_iff_exists.1 hb
  have hnm : fn.name ≠ "runtime.NumGoroutine" := by simpa using k.names f fn hf
  have hcall : (callFunc f #[]).run P w = .ok (.enter f #[]) w := by simp [callFunc, hf, hnm, hbd, Sem.run]
  have q1' : (callFunc f #[]).run P w = .ok nx w1 := q1
  rw [hcall] at q1'
  cases q1'
  have q3 : CallsIn Fence.wide 0 P f #[] w (EndR fun z w' => ∃ ρ', Good (fun _ => none) h0 w ρ' h' w' ∧ VR ρ' (.bool true) z) := q2
  refine (callsIn_wide.1 q3).mono fun e w' r => ?_
  cases e with
  | returned v =>
    obtain ⟨ρ', g, hv⟩ := r
    simp only [VR] at hv
    subst hv
    exact ⟨rfl, g.same.os, g.same.output, g.same.size, fun b hb => g.frame b hb (fun i N e => by cases e)⟩
  | panicked ch => exact r.elim
  | outgrown => exact r.elim

end Go.Ax
