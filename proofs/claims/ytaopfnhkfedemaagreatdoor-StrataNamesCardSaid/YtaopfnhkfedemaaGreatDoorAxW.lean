/-
  AxW: a call, as deep as it goes.
-/
import Derived.Test.YtaopfnhkfedemaaGreatDoorAxV
set_option linter.unusedVariables false
set_option linter.unusedSimpArgs false
namespace Go.Ax

def ExtOk (c : Ctx) (ext : Ext) : Prop :=
  ∀ app, AppOk c app → ∀ (f : FuncId) fn args h v h', ext app f fn args h = .ok v h' → c.P.funcs[f]? = some fn → fn.body = none →
    ∀ (ρ : Map) (w : World) (A : List Value), HR ρ h w → WF h → FreeUp c ρ h → VRs ρ args A →
      ∃ nx w1, (callFunc f A.toArray).run c.P w = .ok nx w1 ∧ NextOk c.P (fun z w' => ∃ ρ', Good ρ h w ρ' h' w' ∧ VR ρ' v z) nx w1

theorem args_er {ρ : Map} {args : List AV} {A : List Value} (h : VRs ρ args A) {n : Nat} (hn : args.length ≤ n) :
    ER ρ (T.put und args (env0 und n) 0) (A.toArray ++ Array.replicate (n - A.toArray.size) undef) n := by
  have hl := h.length
  refine ⟨by simp; omega, fun t => ?_⟩
  rw [get_put]
  simp only [Nat.zero_le, if_true, Nat.sub_zero, get_env0]
  rw [Array.getD_eq_getD_getElem?]
  by_cases ht : t < A.length
  · have h1 : args[t]? = some args[t] := List.getElem?_eq_getElem (by omega)
    obtain ⟨v, h2, h3⟩ := h.at h1
    rw [Array.getElem?_append_left (by simpa using ht), h1]
    have h4 : A.toArray[t]? = some v := by simpa using h2
    rw [h4]; exact h3
  · have h1 : args[t]? = none := List.getElem?_eq_none (by omega)
    rw [h1, Array.getElem?_append_right (by simpa using ht)]
    simp only [Option.getD_none]
    rw [Array.getElem?_replicate]
    split <;> exact und_ok ρ

theorem leave_ok {P : Program} {fn : Func} {tm : Array Value} {R : Ending → World → Prop} : ∀ {m : List Nat} {ρ : Map} {h h' : Heap} {w : World} (hr : HR ρ h w) (wf : WF h) {D : List Deferred} (hm : MR ρ m D) (e : leave h m = some h')
    (hR : ∀ w', Good ρ h w ρ h' w' → ∃ v, (results fn tm).run P w' = .ok v w' ∧ R (.returned v) w'), LeavesInM Fence.wide 0 P fn tm R D .returning w
  | [], ρ, h, h', w, hr, wf, D, hm, e, hR => by
    simp only [MR] at hm; subst hm
    cases e
    exact hR w (Good.refl hr wf)
  | d :: m, ρ, h, h', w, hr, wf, D, hm, e, hR => by
    obtain ⟨B, N, r, hB, hm, rfl⟩ := hm
    have e' : (match h.get d with
      | .dfr b => (match b with | true => leave (h.put d (.dfr false)) m | false => none)
      | _ => none) = some h' := e
    split at e'
    · rename_i b hd
      split at e'
      · have hob := hr.ok d B N hB (by unfold Heap.ok; rw [hd]; trivial)
        rw [hd] at hob
        simp only [ABR] at hob
        have g := Good.putBlock hr wf hB (.dfr true) (.dfr false) (.deferred none) hd rfl (by simp) rfl (by simp only [ABR]; exact World.putObj_heap_same (hr.lt d B N hB))
        refine ⟨by simp, .inl ⟨B, _, rfl, run_takeDeferred hob, ?_⟩⟩
        exact leave_ok g.hr g.wf hm e' (fun w' g' => hR w' (g.trans g'))
      · cases e'
    · cases e'

section
variable {c : Ctx} (k : CtxOk c)
include k

theorem loadVar_ok {ρ : Map} {h : Heap} {w : World} (hr : HR ρ h w) {t : TypeId} {a v : AV} {x : Value} (e : oLoad c h t a = some v) (hx : VR ρ a x) :
    ∃ y, (do loadVar t (← asAddr x) : Sem Value).run c.P w = .ok y w ∧ VR ρ v y := by
  obtain ⟨y, q1, q2⟩ := load_ok k hr e hx
  refine ⟨y, ?_, q2⟩
  unfold oLoad at e
  split at e
  · simp only [VR] at hx
    subst hx
    simpa [Instr.loadAt, Instr.sureAddr, asAddr] using q1
  · simp only [VR] at hx
    obtain ⟨B, N, _, rfl⟩ := hx
    simpa [Instr.loadAt, Instr.sureAddr, asAddr] using q1
  · cases e

/-- one of a function's results -/
def resOne (tm : Array Value) : ResultVar → Sem Value
  | .tmp t => pure (tm.getD t undef)
  | .cell a t => do loadVar t (← asAddr (tm.getD a undef))

theorem resA_ok {ρ : Map} {h : Heap} {w : World} (hr : HR ρ h w) {e : T AV} {tm : Array Value} {sz : Nat} (er : ER ρ e tm sz) : ∀ {l : List ResultVar} {vs : List AV}, resA c h e l = some vs →
    ∃ Vs, (l.mapM (resOne tm)).run c.P w = .ok Vs w ∧ VRs ρ vs Vs
  | [], vs, q => by cases q; exact ⟨[], by simp, by simp [VRs]⟩
  | r :: l, vs, q => by
    have q' : (match (match r with | .tmp t => some (e.get und t) | .cell a t => oLoad c h t (e.get und a)) with
      | some v => (match resA c h e l with | some vs => some (v :: vs) | none => none)
      | none => none) = some vs := q
    cases hv : (match r with | .tmp t => some (e.get und t) | .cell a t => oLoad c h t (e.get und a)) with
    | none => rw [hv] at q'; cases q'
    | some v =>
      rw [hv] at q'
      simp only [] at q'
      cases hl : resA c h e l with
      | none => rw [hl] at q'; cases q'
      | some vs' =>
        rw [hl] at q'; cases q'
        obtain ⟨Vs, q1, q2⟩ := resA_ok hr er hl
        have h1 : ∃ y, (resOne tm r).run c.P w = .ok y w ∧ VR ρ v y := by
          cases r with
          | tmp t => cases hv; exact ⟨_, by simp [resOne], er.2 t⟩
          | cell a t => exact loadVar_ok k hr hv (er.2 a)
        obtain ⟨y, h1, h2⟩ := h1
        refine ⟨y :: Vs, by simp [List.mapM_cons, h1, q1], ?_⟩
        simp only [VRs]; exact ⟨_, _, h2, q2, rfl⟩

theorem results_ok {ρ : Map} {h : Heap} {w : World} (hr : HR ρ h w) {e : T AV} {tm : Array Value} {sz : Nat} (er : ER ρ e tm sz) {fn : Func} {vs : List AV} (q : resA c h e fn.results.toList = some vs) :
    ∃ z, (results fn tm).run c.P w = .ok z w ∧ VR ρ (one vs) z := by
  obtain ⟨Vs, q1, q2⟩ := resA_ok k hr er q
  have e1 : results fn tm = (do let vs ← fn.results.mapM (resOne tm); pure (if h : vs.size = 1 then vs[0] else .tuple vs)) := by
    unfold results
    congr 1
  rw [e1, Array.mapM_eq_mapM_toList]
  refine ⟨if h : Vs.toArray.size = 1 then Vs.toArray[0] else .tuple Vs.toArray, by simp [q1], ?_⟩
  have hl := q2.length
  unfold one
  split
  · rename_i v
    simp only [VRs] at q2
    obtain ⟨x, _, q2, rfl, rfl⟩ := q2
    simpa using q2
  · rename_i hne
    have : Vs.length ≠ 1 := by
      intro hh
      rw [hh] at hl
      match vs, hl with
      | [v], _ => exact hne v rfl
    rw [dif_neg (by simpa using this)]
    simp only [VR]; exact ⟨Vs, q2, rfl⟩

variable {draw : DrawOk} (dc : DrawCalm draw) (dr : DrawSound c draw) {ext : Ext} (hx : ExtOk c ext) {lim : Nat}
include dc dr hx

theorem callA_ok {app : App} (ha : AppOk c app) {f : FuncId} {args : List AV} {h h' : Heap} {v : AV} (he : callA c draw app lim ext f args h = .ok v h')
    {ρ : Map} {w : World} {A : List Value} (hr : HR ρ h w) (wf : WF h) (fr : FreeUp c ρ h) (hA : VRs ρ args A) :
    ∃ nx w1, (callFunc f A.toArray).run c.P w = .ok nx w1 ∧ NextOk c.P (fun z w' => ∃ ρ', Good ρ h w ρ' h' w' ∧ VR ρ' v z) nx w1 := by
  unfold callA at he
  split at he
  · cases he
  · rename_i fn hf
    have hP := k.fns f fn hf
    have hnm : fn.name ≠ "runtime.NumGoroutine" := by simpa using k.names f fn hP
    split at he
    · rename_i hb
      cases hxe : ext app f fn args h with
      | bad l => rw [hxe] at he; cases he
      | ok v1 h1 =>
        rw [hxe] at he; cases he
        exact hx app ha f fn args h v h' hxe hP hb ρ w A hr wf fr hA
    · rename_i body hb
      refine ⟨.enter f A.toArray, w, by simp [callFunc, hP, hnm, hb, Sem.run], ?_⟩
      split at he
      · cases he
      · rename_i hlen
        cases hs : exec c draw app lim f fn.ntmps none body ⟨T.put und args (env0 und fn.ntmps) 0, h, []⟩ with
        | bad l => rw [hs] at he; cases he
        | ok x s =>
          rw [hs] at he
          simp only [] at he
          split at he
          · cases he
          · rename_i hxx
            cases hlv : leave s.h s.m with
            | none => rw [hlv] at he; cases he
            | some h2 =>
              rw [hlv] at he
              simp only [] at he
              cases hre : resA c h2 s.e fn.results.toList with
              | none => rw [hre] at he; cases he
              | some vs =>
                rw [hre] at he; cases he
                refine callsIn_of_wp_marks hP hb trivial ?_
                refine exec_ok k dc dr ha (lim := lim) (fn := f) (sz := fn.ntmps) none body _ _ _ hs none ρ w _ _ rfl hr wf fr (args_er hA (bleT hlen)) rfl fun a' w' ρ' g er mr => ?_
                have hfin : LeavesInM Fence.wide 0 c.P fn a'.tmps (EndR fun z w' => ∃ ρ', Good ρ h w ρ' h' w' ∧ VR ρ' (one vs) z) a'.defers .returning w' := by
                  refine leave_ok g.hr g.wf mr hlv fun w2 g2 => ?_
                  obtain ⟨z, z1, z2⟩ := results_ok k g2.hr er hre
                  exact ⟨z, z1, ρ', g.trans g2, z2⟩
                cases x with
                | normal => exact hfin
                | ret => exact hfin
                | exit id => cases hxx

omit k dc dr hx in
theorem setPs_ok {ρ : Map} {sz : Nat} : ∀ {ps : List Tmp} {args : List AV} {A : List Value} {e e' : T AV} {tm : Array Value}, setPs e ps args sz = some e' → VRs ρ args A → ER ρ e tm sz →
    A.length = ps.length ∧ ER ρ e' ((ps.zip A).foldl (fun tmps (p : Tmp × Value) => tmps.setIfInBounds p.1 p.2) tm) sz
  | [], [], A, e, e', tm, q, hA, er => by
    have q' : some e = some e' := q
    cases q'; simp only [VRs] at hA; subst hA; exact ⟨rfl, er⟩
  | [], a :: args, A, e, e', tm, q, hA, er => by
    have q' : (none : Option (T AV)) = some e' := q
    cases q'
  | p :: ps, [], A, e, e', tm, q, hA, er => by
    have q' : (none : Option (T AV)) = some e' := q
    cases q'
  | p :: ps, a :: args, A, e, e', tm, q, hA, er => by
    have q' : (match Nat.ble (p + 1) sz with | true => setPs (e.set und p a) ps args sz | false => none) = some e' := q
    split at q'
    · rename_i hd
      simp only [VRs] at hA
      obtain ⟨x, r, hx1, hr1, rfl⟩ := hA
      have her : ER ρ (e.set und p a) (tm.setIfInBounds p x) sz := by
        have := setD_ok (a := { tmps := tm, defers := [] }) (d := some p) (h := h0) (h' := h0) (e' := e.set und p a) er hx1 (by unfold setD; simp only [hd])
        exact this.2.1
      obtain ⟨h1, h2⟩ := setPs_ok q' hr1 her
      exact ⟨by simp [h1], h2⟩
    · cases q'

omit hx in
theorem yieldA_ok {app : App} (ha : AppOk c app) {l : Nat} {args : List AV} {h h' : Heap} {v : AV} (he : yieldA c draw app lim l args h = .ok v h')
    {ρ : Map} {w : World} {A : List Value} (hr : HR ρ h w) (wf : WF h) (fr : FreeUp c ρ h) (hA : VRs ρ args A) {B N : Nat} (hl : ρ l = some (B, N)) :
    ∃ nx w1, (Instr.yield B A.toArray).run c.P w = .ok nx w1 ∧ NextOk c.P (fun z w' => ∃ ρ', Good ρ h w ρ' h' w' ∧ VR ρ' v z) nx w1 := by
  unfold yieldA at he
  split at he
  · rename_i r hg
    obtain ⟨fn0, tm, D, M, p1, p2, p3⟩ := ALoop.get hr hl hg
    cases hps : setPs r.e r.params args r.sz with
    | none => rw [hps] at he; cases he
    | some e =>
      rw [hps] at he
      simp only [] at he
      obtain ⟨hlen, her⟩ := setPs_ok hps hA p2
      refine ⟨_, w, run_yield p1 (by simpa using hlen), ?_⟩
      cases hs : exec c draw app lim r.fn r.sz (some l) r.assign ⟨e, h, []⟩ with
      | bad l => rw [hs] at he; cases he
      | ok x s =>
        rw [hs] at he
        simp only [] at he
        split at he
        · split at he
          · rename_i r1 hg1
            split at he
            · rename_i hst
              cases hs2 : exec c draw app lim r.fn r.sz (some l) r.body ⟨s.e, s.h.put l (.loop { r1 with state := .busy }), s.m⟩ with
              | bad l => rw [hs2] at he; cases he
              | ok x2 s2 =>
                rw [hs2] at he
                simp only [] at he
                split at he
                · rename_i r2 hg2
                  refine roundIn_of_wpIn trivial ?_
                  have hz : (r.params.toArray.zip A.toArray).foldl (fun tmps (p : Tmp × Value) => tmps.setIfInBounds p.1 p.2) tm = (r.params.zip A).foldl (fun tmps (p : Tmp × Value) => tmps.setIfInBounds p.1 p.2) tm := by
                    simp
                  refine exec_ok k dc dr ha (lim := lim) (fn := r.fn) (sz := r.sz) (some l) r.assign _ _ _ hs (some B) ρ w _ _ ⟨B, N, hl, rfl⟩ hr wf fr (by rw [← hz] at her; exact her) rfl fun a1 w1 ρ1 g1 er1 mr1 => ?_
                  have hl1 := g1.sub _ _ hl
                  obtain ⟨fn1, tm1, D1, M1, q1, q2, q3⟩ := ALoop.get g1.hr hl1 hg1
                  have g2 := Good.putBlock g1.hr g1.wf hl1 (.loop r1) (.loop { r1 with state := .busy })
                    (.loop { state := .busy, pending := pendOf r1.pending, fn := fn1, tmps := tm1, params := r1.params.toArray, assign := r1.assign, body := r1.body, defers := D1 }) hg1 rfl (by simp) rfl
                    (by simp only [ABR]; exact ⟨fn1, tm1, D1, M1, World.putObj_heap_same (g1.hr.lt l B N hl1), q2, q3⟩)
                  refine ⟨_, run_beginRound q1 hst, ?_⟩
                  have g12 := g1.trans g2
                  refine exec_ok k dc dr ha (lim := lim) (fn := r.fn) (sz := r.sz) (some l) r.body _ _ _ hs2 (some B) ρ1 _ _ _ ⟨B, N, hl1, rfl⟩ g2.hr g2.wf (g12.up fr) er1 mr1 fun a2 w2 ρ2 g3 er2 mr2 => ?_
                  have hl2 := g3.sub _ _ hl1
                  obtain ⟨fn2, tm2, D2, M2, t1, t2, t3⟩ := ALoop.get g3.hr hl2 hg2
                  have hlt := g3.hr.lt l B N hl2
                  have g4 := fun (st : LoopState) (pd : Option Ex) => Good.putBlock g3.hr g3.wf hl2 (.loop r2) (.loop { r2 with state := st, pending := pd })
                    (.loop { state := st, pending := pendOf pd, fn := fn2, tmps := tm2, params := r2.params.toArray, assign := r2.assign, body := r2.body, defers := D2 }) hg2 rfl (by simp) rfl
                    (by simp only [ABR]; exact ⟨fn2, tm2, D2, M2, World.putObj_heap_same hlt, t2, t3⟩)
                  cases x2 with
                  | normal =>
                    cases he
                    refine ⟨_, _, run_endRound none t1, ρ2, (g12.trans g3).trans (g4 .ready none), ?_⟩
                    simp only [VR]; rfl
                  | exit id =>
                    cases he
                    refine ⟨_, _, run_endRound (some (.exit id)) t1, ρ2, (g12.trans g3).trans (g4 .done (some (.exit id))), ?_⟩
                    simp only [VR]; rfl
                  | ret =>
                    cases he
                    refine ⟨_, _, run_endRound (some .ret) t1, ρ2, (g12.trans g3).trans (g4 .done (some .ret)), ?_⟩
                    simp only [VR]; rfl
                · cases he
            · cases he
          · cases he
        · cases he
  · cases he

end

/-! ## calls that are known -/
/-- a value without a place -/
def clo0 (v : AV) : Bool :=
  match v with
  | .bool _ => true
  | .int _ _ => true
  | .str _ => true
  | .nilptr => true
  | .nilsl => true
  | .nilmp => true
  | .nilfn => true
  | .nilifc => true
  | .gptr _ _ => true
  | .anyb => true
  | .big _ => true
  | .low _ => true
  | .anyi => true
  | .bad => true
  | _ => false
noncomputable def clos (l : List AV) : Bool := List.rec (motive := fun _ => Bool) true (fun v _ r => match clo0 v with | true => r | false => false) l
noncomputable def clo (v : AV) : Bool :=
  match v with
  | .agg l => clos l
  | .tup l => List.rec (motive := fun _ => Bool) true (fun v _ r => match (match v with | .agg l => clos l | v => clo0 v) with | true => r | false => false) l
  | .ifc _ v => clo0 v
  | v => clo0 v
theorem clo0_ok {ρ σ : Map} {v : AV} {x : Value} (h : clo0 v = true) (q : VR ρ v x) : VR σ v x := by
  cases v <;> first | (cases h; done) | (simp only [VR] at q ⊢; exact q) | (simp only [VR])
theorem clos_ok {ρ σ : Map} : ∀ {l : List AV} {L : List Value}, clos l = true → VRs ρ l L → VRs σ l L
  | [], L, _, q => by simp only [VRs] at q ⊢; exact q
  | v :: l, L, h, q => by
    have h' : (match clo0 v with | true => clos l | false => false) = true := h
    split at h'
    · rename_i hv
      simp only [VRs] at q ⊢
      obtain ⟨x, r, a, b, e⟩ := q
      exact ⟨x, r, clo0_ok hv a, clos_ok h' b, e⟩
    · cases h'
theorem clo_agg_ok {ρ σ : Map} {v : AV} {x : Value} (h : (match v with | .agg l => clos l | v => clo0 v) = true) (q : VR ρ v x) : VR σ v x := by
  cases v with
  | agg l =>
    simp only [VR] at q ⊢
    obtain ⟨L, a, b⟩ := q
    exact ⟨L, clos_ok h a, b⟩
  | _ => exact clo0_ok h q
theorem clo_ok {ρ σ : Map} {v : AV} {x : Value} (h : clo v = true) (q : VR ρ v x) : VR σ v x := by
  cases v with
  | agg l =>
    simp only [VR] at q ⊢
    obtain ⟨L, a, b⟩ := q
    exact ⟨L, clos_ok h a, b⟩
  | tup l =>
    simp only [VR] at q ⊢
    obtain ⟨L, a, b⟩ := q
    refine ⟨L, ?_, b⟩
    clear b
    induction l generalizing L with
    | nil => simp only [VRs] at a ⊢; exact a
    | cons v l ih =>
      have h' : (match (match v with | .agg l => clos l | v => clo0 v) with | true => clo (.tup l) | false => false) = true := h
      split at h'
      · rename_i hv
        simp only [VRs] at a ⊢
        obtain ⟨x, r, a1, a2, e⟩ := a
        exact ⟨x, r, clo_agg_ok hv a1, ih h' r a2, e⟩
      · cases h'
  | ifc t v =>
    simp only [VR] at q ⊢
    obtain ⟨y, a, b⟩ := q
    exact ⟨y, clo0_ok h a, b⟩
  | _ => exact clo0_ok h q
noncomputable def clAll (l : List AV) : Bool := List.rec (motive := fun _ => Bool) true (fun v _ r => match clo v with | true => r | false => false) l
theorem clAll_ok {ρ σ : Map} : ∀ {l : List AV} {L : List Value}, clAll l = true → VRs ρ l L → VRs σ l L
  | [], L, _, q => by simp only [VRs] at q ⊢; exact q
  | v :: l, L, h, q => by
    have h' : (match clo v with | true => clAll l | false => false) = true := h
    split at h'
    · rename_i hv
      simp only [VRs] at q ⊢
      obtain ⟨x, r, a, b, e⟩ := q
      exact ⟨x, r, clo_ok hv a, clAll_ok h' b, e⟩
    · cases h'

/-- a world that has grown, and nothing of it turned -/
def ExtW (w w' : World) : Prop := Same w w' ∧ ∀ b, b < w.heap.size → w'.heap[b]? = w.heap[b]?
/-- the packages' variables read so -/
def GlobW (c : Ctx) (w : World) : Prop :=
  ∀ i r, c.g0.get i = .gl r → i < w.heap.size ∧ ∀ j, j < r.n → ∃ v, w.cell? ⟨i, j, none⟩ = some v ∧ VR (fun _ => none) (r.get j) v
def KnownOk (c : Ctx) (f : FuncId) (args : List AV) (v : AV) : Prop :=
  ∀ (w : World) (A : List Value), GlobW c w → VRs (fun _ => none) args A →
    ∃ nx w1, (callFunc f A.toArray).run c.P w = .ok nx w1 ∧ NextOk c.P (fun z w' => ExtW w w' ∧ VR (fun _ => none) v z) nx w1
structure KnOk (c : Ctx) : Prop where
  cells : ∀ i r, c.g0.get i = .gl r → ∀ j, j < r.n → clo (r.get j) = true
  args : ∀ f l args v, c.kn.get none f = some l → (args, v) ∈ l → clAll args = true
  ok : ∀ f l args v, c.kn.get none f = some l → (args, v) ∈ l → KnownOk c f args v

theorem findK_mem : ∀ {l : List (List AV × AV)} {args : List AV} {v : AV}, findK l args = some v → (args, v) ∈ l
  | [], args, v, h => by cases h
  | p :: l, args, v, h => by
    have h' : (match avsEq p.1 args with | true => some p.2 | false => findK l args) = some v := h
    split at h'
    · rename_i hq
      cases h'
      rw [← avsEq_eq hq]; exact List.mem_cons_self
    · exact List.mem_cons_of_mem _ (findK_mem h')
theorem NextOk.mono {P : Program} {R R' : Value → World → Prop} {nx : Next} {w : World} (h : NextOk P R nx w) (hr : ∀ z w', R z w' → R' z w') : NextOk P R' nx w := by
  cases nx <;> simp only [NextOk] at h ⊢
  case value v => exact hr _ _ h
  case skip => exact hr _ _ h
  case enter f args => exact CallsIn.mono h fun e w' q => by cases e <;> first | exact hr _ _ q | exact q
  case round l f tmps a b => exact RoundIn.mono h fun e w' q => by cases e <;> first | exact hr _ _ q | exact q

theorem glob_of {c : Ctx} (kn : KnOk c) {ρ : Map} {h : Heap} {w : World} (hr : HR ρ h w) (fr : FreeUp c ρ h) : GlobW c w := fun i r hi => by
  have hg := fr.2 i r hi
  obtain ⟨N, hN⟩ := hr.gl i r hg
  refine ⟨hr.lt i i N hN, fun j hj => ?_⟩
  have := hr.ok i i N hN (by unfold Heap.ok; rw [hg]; trivial)
  rw [hg] at this
  obtain ⟨v, v1, v2⟩ := this j hj
  exact ⟨v, v1, clo_ok (kn.cells i r hi j hj) v2⟩
theorem known_ok {c : Ctx} (kn : KnOk c) {f : FuncId} {args : List AV} {v : AV} (hk : known c f args = some v) {ρ : Map} {h : Heap} {w : World} {A : List Value} (hr : HR ρ h w) (wf : WF h) (fr : FreeUp c ρ h) (hA : VRs ρ args A) :
    ∃ nx w1, (callFunc f A.toArray).run c.P w = .ok nx w1 ∧ NextOk c.P (fun z w' => ∃ ρ', Good ρ h w ρ' h w' ∧ VR ρ' v z) nx w1 := by
  unfold known at hk
  split at hk
  · cases hk
  · rename_i l hl
    have hm := findK_mem hk
    obtain ⟨nx, w1, q1, q2⟩ := kn.ok f l args v hl hm w A (glob_of kn hr fr) (clAll_ok (kn.args f l args v hl hm) hA)
    refine ⟨nx, w1, q1, q2.mono fun z w' ⟨e, hv⟩ => ⟨ρ, (Good.refl hr wf).ext e.1 e.2, hv.mono (fun i p q => by cases q)⟩⟩

section
variable {c : Ctx} (k : CtxOk c) (kn : KnOk c) {draw : DrawOk} (dc : DrawCalm draw) (dr : DrawSound c draw) {ext : Ext} (hx : ExtOk c ext) {lim : Nat}
include k kn dc dr hx

theorem app_ok : ∀ n, AppOk c (app c draw lim ext n) := by
  intro n
  induction n with
  | zero => intro t args h v h' he; cases he
  | succ n ih =>
    intro t args h v h' he ρ w A hr wf fr hA
    cases t with
    | f f =>
      have he' : (match known c f args with | some v => Ans.ok v h | none => callA c draw (app c draw lim ext n) lim ext f args h) = .ok v h' := he
      split at he'
      · rename_i u hu
        cases he'
        exact known_ok kn hu hr wf fr hA
      · exact callA_ok k dc dr hx ih he' hr wf fr hA
    | y l => exact fun B N hl => yieldA_ok k dc dr ih he hr wf fr hA hl
end
end Go.Ax
