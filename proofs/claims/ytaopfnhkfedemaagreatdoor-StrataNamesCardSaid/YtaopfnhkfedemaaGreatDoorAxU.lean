/-
  AxU: a region in a given order: the evaluator's run is a walk of the model's.
-/
import Derived.Test.YtaopfnhkfedemaaGreatDoorAxT
import Derived.RangeFuncRecord
import Derived.OrdersIn
import Derived.Scope
set_option linter.unusedVariables false
set_option linter.unusedSimpArgs false
namespace Go.Ax

def wideR (ro : Option Nat) : Fence := { Fence.wide with round := ro }
theorem wideR_fn (ro : Option Nat) (f : FuncId) : (wideR ro).fn f := trivial
theorem wideR_depth (ro : Option Nat) : (wideR ro).depth = none := rfl

def FreeIdx (ρ : Map) (h : Heap) : Prop := ∀ i, h.nxt ≤ i → ρ i = none
/-- no number is taken that will be given; the packages' variables stand there -/
def FreeUp (c : Ctx) (ρ : Map) (h : Heap) : Prop := FreeIdx ρ h ∧ ∀ i r, c.g0.get i = .gl r → h.get i = .gl r
theorem FreeUp.free {c : Ctx} {ρ : Map} {h : Heap} (f : FreeUp c ρ h) (n : Nat) : Free ρ h.nxt n := fun i a _ => f.1 i a
theorem Good.upI {ρ ρ' : Map} {h h' : Heap} {w w' : World} (g : Good ρ h w ρ' h' w') (f : FreeIdx ρ h) : FreeIdx ρ' h' := fun i a => by
  cases e : ρ' i with
  | none => rfl
  | some p =>
    rcases g.dom i p e with q | ⟨_, q⟩
    · have := g.nxt; rw [f i (by omega)] at q; cases q
    · omega

theorem Good.up {c : Ctx} {ρ ρ' : Map} {h h' : Heap} {w w' : World} (g : Good ρ h w ρ' h' w') (f : FreeUp c ρ h) : FreeUp c ρ' h' := ⟨g.upI f.1, fun i r q => g.gl i r (f.2 i r q)⟩

/-- a call that returns -/
def EndR (R : Value → World → Prop) : Ending → World → Prop
  | .returned v, w => R v w
  | _, _ => False
/-- what is next, if it comes to a value -/
def NextOk (P : Program) (R : Value → World → Prop) : Next → World → Prop
  | .value v, w => R v w
  | .skip, w => R undef w
  | .enter f args, w => CallsIn Fence.wide 0 P f args w (EndR R)
  | .round l f tmps a b, w => RoundIn Fence.wide 0 P l f tmps a b w (EndR R)
  | _, _ => False

theorem callsIn_ro {ro : Option Nat} {P : Program} {f : FuncId} {args : Array Value} {w : World} {R : Ending → World → Prop} (h : CallsIn Fence.wide 0 P f args w R) : CallsIn (wideR ro) 0 P f args w R := h
theorem roundIn_ro {ro : Option Nat} {P : Program} {l : Nat} {f : FuncId} {tmps : Array Value} {a b : Code} {w : World} {R : Ending → World → Prop} (h : RoundIn Fence.wide 0 P l f tmps a b w R) : RoundIn (wideR ro) 0 P l f tmps a b w R := h

/-- A CALL AS THE EVALUATOR MAKES IT IS THE MODEL's. -/
def AppOk (c : Ctx) (app : App) : Prop :=
  ∀ t args h v h', app t args h = .ok v h' → ∀ (ρ : Map) (w : World) (A : List Value), HR ρ h w → WF h → FreeUp c ρ h → VRs ρ args A →
    match t with
    | .f f => ∃ nx w1, (callFunc f A.toArray).run c.P w = .ok nx w1 ∧ NextOk c.P (fun z w' => ∃ ρ', Good ρ h w ρ' h' w' ∧ VR ρ' v z) nx w1
    | .y l => ∀ B N, ρ l = some (B, N) → ∃ nx w1, (Instr.yield B A.toArray).run c.P w = .ok nx w1 ∧ NextOk c.P (fun z w' => ∃ ρ', Good ρ h w ρ' h' w' ∧ VR ρ' v z) nx w1

theorem uponIn_of_next {ro : Option Nat} {P : Program} {o : Oper} {a : Act} {next : Act → World → Prop} {Q : Exit → Act → World → Prop} {R : Value → World → Prop} {nx : Next} {w : World}
    (h : NextOk P R nx w) (k : ∀ z w', R z w' → next (a.put o.dst z) w') : o.uponIn (wideR ro) 0 P a next Q (.ok nx w) := by
  cases nx <;> simp only [NextOk] at h
  case value v => exact k _ _ h
  case skip => exact k _ _ h
  case enter f args =>
    refine ⟨fun q => by simp [wideR, Fence.wide] at q, CallsIn.mono (callsIn_ro h) fun e w' r => ?_⟩
    cases e <;> simp only [EndR] at r
    exact k _ _ r
  case round l f tmps a b =>
    refine ⟨fun q => by simp [wideR, Fence.wide] at q, RoundIn.mono (roundIn_ro h) fun e w' r => ?_⟩
    cases e <;> simp only [EndR] at r
    exact k _ _ r

section
variable {c : Ctx} (k : CtxOk c) {app : App} (ha : AppOk c app)

/-- what an operation comes to -/
noncomputable def opR (c : Ctx) (app : App) (e : T AV) (h : Heap) (o : Op) : Option (AV × Heap) :=
  match opA c e h o with
  | none => none
  | some (.v a h') => some (a, h')
  | some (.go t args h') => (match app t args h' with
    | .ok a h'' => some (a, h'')
    | .bad _ => none)

theorem opA_go {c : Ctx} {e : T AV} {h h' : Heap} {o : Op} {t : Tgt} {args : List AV} (he : opA c e h o = some (.go t args h')) :
    h' = h ∧ ∃ cl f, o = .call cl ∧ cl.callee = .value f ∧ ∃ g first cap, ev e f = .fn g first cap ∧
      ((∃ f', g = .func f' ∧ t = .f f' ∧ args = first ++ cl.args.toList.map (ev e) ++ cap) ∨ (∃ l, g = .yield l ∧ t = .y l ∧ args = first ++ cl.args.toList.map (ev e))) := by
  cases o <;> simp only [opA] at he <;> try (cases he; done)
  all_goals try (first
    | (unfold val at he; split at he <;> cases he; done)
    | (unfold valH at he; split at he <;> cases he; done)
    | (unfold unit at he; split at he <;> cases he; done)
    | (split at he <;> cases he; done))
  case call cl =>
    unfold oCall at he
    split at he
    · rename_i b hb
      exfalso
      unfold oBuiltin at he
      repeat' (split at he)
      all_goals first | (cases he; done) | (simp at he; done) | (unfold val at he; split at he <;> cases he; done)
    · rename_i f hf
      split at he
      · rename_i g first cap hg
        split at he
        · cases he; exact ⟨rfl, cl, f, rfl, hf, _, first, cap, hg, .inl ⟨_, rfl, rfl, rfl⟩⟩
        · cases he; exact ⟨rfl, cl, f, rfl, hf, _, first, cap, hg, .inr ⟨_, rfl, rfl, rfl⟩⟩
        · cases he
      · cases he
    · cases he

theorem opA_defer {c : Ctx} {e : T AV} {h : Heap} {o : Op} {r : Out} (he : opA c e h o = some r) : ∀ d, o ≠ .defer d := by
  intro d hd; subst hd; simp only [opA] at he; cases he

include k ha in
theorem opR_ok {ρ : Map} {h h' : Heap} {w : World} (hr : HR ρ h w) (wf : WF h) (fr : FreeUp c ρ h) {o : Oper} {a : Act} {sz : Nat} {e : T AV} (er : ER ρ e a.tmps sz) {v : AV}
    (he : opR c app e h o.op = some (v, h')) {ro : Option Nat} {next : Act → World → Prop} {Q : Exit → Act → World → Prop}
    (hn : ∀ z w' ρ', Good ρ h w ρ' h' w' → VR ρ' v z → next (a.put o.dst z) w') : o.wpIn (wideR ro) 0 c.P a w next Q := by
  refine ⟨fun _ _ => trivial, ?_⟩
  unfold opR at he
  cases hop : opA c e h o.op with
  | none => rw [hop] at he; cases he
  | some r =>
    rw [show (wideR ro).round = ro from rfl, Oper.semAt_eq ro a.eval o (opA_defer hop)]
    rw [hop] at he
    cases r with
    | v b h1 =>
      simp only [] at he; cases he
      obtain ⟨nx, w', ρ', q1, q2, q3⟩ := opA_ok k hr wf (fr.free _) er hop
      rw [q1]
      rcases q3 with ⟨z, rfl, q3⟩ | ⟨rfl, q3⟩
      · exact hn _ _ _ q2 q3
      · exact hn _ _ _ q2 q3
    | go t args h1 =>
      simp only [] at he
      obtain ⟨rfl, cl, f, ho, hf, g, first, cap, hg, hcase⟩ := opA_go hop
      cases hap : app t args h1 with
      | bad l => rw [hap] at he; cases he
      | ok b h2 =>
        rw [hap] at he; cases he
        have hfv := ev_ok er f
        rw [hg] at hfv
        simp only [VR] at hfv
        obtain ⟨f', F, C, e1, e2, e3, e4⟩ := hfv
        have hargs := evs_ok er cl.args.toList
        have happ := ha t args h1 v h' hap ρ w
        have hres : ∀ d, d = ({ target := .fn f' C.toArray, args := F.toArray ++ cl.args.map a.eval } : Deferred) → (execOp a.eval o).run c.P w = (invoke d.target d.args).run c.P w := by
          intro d hd
          subst hd
          simp only [execOp, ho, resolve, hf, e4, Deferred.ofValue, Sem.run_bind, Sem.run_pure, Result.andThen_ok]
        rw [hres _ rfl]
        have hA : (F.toArray ++ cl.args.map a.eval) = (F ++ cl.args.toList.map a.eval).toArray := by apply Array.ext'; simp
        rcases hcase with ⟨fi, rfl, rfl, rfl⟩ | ⟨l, rfl, rfl, rfl⟩
        · simp only [FR] at e1
          subst e1
          obtain ⟨nx, w1, q1, q2⟩ := happ (F ++ cl.args.toList.map a.eval ++ C) hr wf fr (VRs.append (VRs.append e2 hargs) e3)
          have : (invoke (.fn (.func fi) C.toArray) (F.toArray ++ cl.args.map a.eval)).run c.P w = .ok nx w1 := by
            rw [hA]
            simp only [invoke]
            rw [← q1]
            congr 2
            apply Array.ext'; simp
          rw [this]
          exact uponIn_of_next q2 (fun z w' ⟨ρ', g1, g2⟩ => hn z w' ρ' g1 g2)
        · simp only [FR] at e1
          obtain ⟨B, N, e5, rfl⟩ := e1
          obtain ⟨nx, w1, q1, q2⟩ := happ (F ++ cl.args.toList.map a.eval) hr wf fr (VRs.append e2 hargs) B N e5
          have : (invoke (.fn (.yield B) C.toArray) (F.toArray ++ cl.args.map a.eval)).run c.P w = .ok nx w1 := by
            rw [hA]
            simp only [invoke]
            exact q1
          rw [this]
          exact uponIn_of_next q2 (fun z w' ⟨ρ', g1, g2⟩ => hn z w' ρ' g1 g2)
end

theorem setD_ok {ρ : Map} {e e' : T AV} {h h' : Heap} {sz : Nat} {d : Option Tmp} {v : AV} {z : Value} {a : Act} (er : ER ρ e a.tmps sz) (hv : VR ρ v z) (q : setD e d v sz h = .ok e' h') :
    h' = h ∧ ER ρ e' (a.put d z).tmps sz ∧ (a.put d z).defers = a.defers := by
  unfold setD at q
  cases d with
  | none => cases q; exact ⟨rfl, er, rfl⟩
  | some d =>
    simp only [] at q
    split at q
    · rename_i hd
      cases q
      have hlt : d < sz := Nat.lt_of_succ_le (bleT hd)
      refine ⟨rfl, ⟨by simp [Act.put, er.1], fun t => ?_⟩, rfl⟩
      rw [get_set]
      simp only [Act.put]
      by_cases ht : t = d
      · subst ht
        rw [if_pos rfl]
        have : t < a.tmps.size := by rw [er.1]; exact hlt
        simp [Array.getD_eq_getD_getElem?, Array.getElem?_setIfInBounds, this]; exact hv
      · rw [if_neg ht]
        have := er.2 t
        simpa [Array.getD_eq_getD_getElem?, Array.getElem?_setIfInBounds, Ne.symm ht] using this
    · cases q

theorem wantA_ok {ρ : Map} {e : T AV} {sz : Nat} {ops : Array Oper} {o : Oper} {tm : Array Value} (er : ER ρ e tm sz) {b : Bool} (q : wantA ops.toList e o = some b) :
    Region.wanted o (yielded ops tm) = b := by
  unfold wantA at q
  unfold Region.wanted
  cases hg : o.guard with
  | none => rw [hg] at q; cases q; rfl
  | some jw =>
    obtain ⟨j, w⟩ := jw
    rw [hg] at q
    simp only [nth_eq] at q ⊢
    unfold yielded
    have hj : ops[j]? = ops.toList[j]? := by simp
    rw [hj]
    cases hp : ops.toList[j]? with
    | none => rw [hp] at q; cases q; rfl
    | some p =>
      rw [hp] at q
      simp only [Option.bind_some] at q ⊢
      cases hd : p.dst with
      | none => rw [hd] at q; cases q; rfl
      | some d =>
        rw [hd] at q
        simp only [Option.bind_some] at q ⊢
        have h1 := er.2 d
        rw [Array.getD_eq_getD_getElem?] at h1
        cases hv : e.get und d <;> rw [hv] at q h1 <;> try (cases q; done)
        · rename_i bb
          simp only [VR] at h1
          cases q
          cases ht : tm[d]? with
          | none => rw [ht] at h1; simp [undef] at h1
          | some x =>
            rw [ht] at h1; simp at h1; subst h1
            simp only []
            cases bb <;> cases w <;> rfl
        · simp only [VR] at h1
          obtain ⟨L, _, h1⟩ := h1
          cases q
          cases ht : tm[d]? with
          | none => rfl
          | some x => rw [ht] at h1; simp at h1; subst h1; rfl

section
variable {c : Ctx} (k : CtxOk c) {app : App} (ha : AppOk c app)
include k ha

theorem stepA_ok {ρ : Map} {h h' : Heap} {w : World} (hr : HR ρ h w) (wf : WF h) (fr : FreeUp c ρ h) {ops : Array Oper} {i : Nat} {o : Oper} (hi : ops[i]? = some o) {a : Act} {sz : Nat} {e e' : T AV} (er : ER ρ e a.tmps sz)
    (he : stepA c app sz ops.toList o e h = .ok e' h') {ro : Option Nat} {K : Act → World → Prop} {Q : Exit → Act → World → Prop}
    (hn : ∀ a' w' ρ', Good ρ h w ρ' h' w' → ER ρ' e' a'.tmps sz → a'.defers = a.defers → K a' w') : wpOpIn (wideR ro) 0 c.P ops Q i K a w := by
  unfold stepA at he
  unfold wpOpIn
  rw [hi]
  simp only []
  split at he
  · cases he
  · rename_i hw
    rw [if_neg (by rw [wantA_ok er hw]; simp)]
    refine ⟨fun _ _ => trivial, ?_⟩
    obtain ⟨rfl, q2, q3⟩ := setD_ok er (und_ok ρ) he
    exact hn _ _ ρ (Good.refl hr wf) q2 q3
  · rename_i hw
    rw [if_pos (wantA_ok er hw)]
    cases hop : opA c e h o.op with
    | none => rw [hop] at he; cases he
    | some r =>
      rw [hop] at he
      cases r with
      | v b h1 =>
        simp only [] at he
        obtain ⟨rfl, _, _⟩ : h' = h1 ∧ True ∧ True := by
          unfold setD at he; split at he
          · cases he; exact ⟨rfl, trivial, trivial⟩
          · split at he
            · cases he; exact ⟨rfl, trivial, trivial⟩
            · cases he
        refine opR_ok k ha hr wf fr er (v := b) (h' := h') (by unfold opR; rw [hop]) fun z w' ρ' g1 g2 => ?_
        obtain ⟨_, q2, q3⟩ := setD_ok (er.mono g1.sub) g2 he
        exact hn _ _ ρ' g1 q2 q3
      | go t args h1 =>
        simp only [] at he
        cases hap : app t args h1 with
        | bad l => rw [hap] at he; cases he
        | ok b h2 =>
          rw [hap] at he
          simp only [] at he
          obtain ⟨rfl, _, _⟩ : h' = h2 ∧ True ∧ True := by
            unfold setD at he; split at he
            · cases he; exact ⟨rfl, trivial, trivial⟩
            · split at he
              · cases he; exact ⟨rfl, trivial, trivial⟩
              · cases he
          refine opR_ok k ha hr wf fr er (v := b) (h' := h') (by unfold opR; rw [hop]; simp only [hap]) fun z w' ρ' g1 g2 => ?_
          obtain ⟨_, q2, q3⟩ := setD_ok (er.mono g1.sub) g2 he
          exact hn _ _ ρ' g1 q2 q3

omit k ha in
theorem runOps_cons (c : Ctx) (app : App) (sz : Nat) (ops : List Oper) (o : Oper) (l : List Oper) (e : T AV) (h : Heap) :
    runOps c app sz ops (o :: l) e h = match stepA c app sz ops o e h with | .ok e' h' => runOps c app sz ops l e' h' | .bad l => .bad l := rfl

theorem runOps_ok {ops : Array Oper} {sz : Nat} {ro : Option Nat} {Q : Exit → Act → World → Prop} : ∀ (is : List Nat) (l : List Oper), is.map (fun i => ops[i]?) = l.map some →
    ∀ {ρ : Map} {h h' : Heap} {w : World} (hr : HR ρ h w) (wf : WF h) (fr : FreeUp c ρ h) {a : Act} {e e' : T AV} (er : ER ρ e a.tmps sz)
    (he : runOps c app sz ops.toList l e h = .ok e' h')
    (hn : ∀ a' w' ρ', Good ρ h w ρ' h' w' → ER ρ' e' a'.tmps sz → a'.defers = a.defers → Q .normal a' w'), wpOpsIn (wideR ro) 0 c.P ops Q is a w := by
  intro is
  induction is with
  | nil =>
    intro l hl ρ h h' w hr wf fr a e e' er he hn
    cases l with
    | nil => cases he; exact hn a w ρ (Good.refl hr wf) er rfl
    | cons o l => simp at hl
  | cons i is ih =>
    intro l hl ρ h h' w hr wf fr a e e' er he hn
    cases l with
    | nil => simp at hl
    | cons o l =>
      simp only [List.map_cons, List.cons.injEq] at hl
      rw [wpOpsIn_cons]
      rw [runOps_cons c app] at he
      cases hs : stepA c app sz ops.toList o e h with
      | bad l => rw [hs] at he; cases he
      | ok e1 h1 =>
        rw [hs] at he
        refine stepA_ok k ha hr wf fr hl.1 er hs fun a1 w1 ρ1 g1 er1 d1 => ?_
        exact ih l hl.2 g1.hr g1.wf (g1.up fr) er1 he fun a2 w2 ρ2 g2 er2 d2 => hn a2 w2 ρ2 (g1.trans g2) er2 (d2.trans d1)
end
end Go.Ax
