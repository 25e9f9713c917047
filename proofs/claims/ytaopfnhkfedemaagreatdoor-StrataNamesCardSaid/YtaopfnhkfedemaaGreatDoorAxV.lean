/-
  AxV: code: the evaluator's run is a walk of the model's.
-/
import Derived.Test.YtaopfnhkfedemaaGreatDoorAxU
import Derived.Test.YtaopfnhkfedemaaGreatDoorAxUb
set_option linter.unusedVariables false
set_option linter.unusedSimpArgs false
namespace Go.Ax

def exitOf : Ex → Exit
  | .normal => .normal
  | .exit id => .exit id
  | .ret => .ret

/-- the marks of the loops' blocks -/
def MR (ρ : Map) : List Nat → List Deferred → Prop
  | [], D => D = []
  | d :: m, D => ∃ B N r, ρ d = some (B, N) ∧ MR ρ m r ∧ D = { target := .collected B, args := #[] } :: r
theorem MR.mono {ρ σ : Map} (s : Sub ρ σ) : ∀ {m : List Nat} {D : List Deferred}, MR ρ m D → MR σ m D
  | [], D, h => h
  | d :: m, D, h => let ⟨B, N, r, a, b, c⟩ := h; ⟨B, N, r, s _ _ a, MR.mono s b, c⟩
theorem MR.append {ρ : Map} : ∀ {m m' : List Nat} {D D' : List Deferred}, MR ρ m D → MR ρ m' D' → MR ρ (m ++ m') (D ++ D')
  | [], m', D, D', h, k => by simp only [MR] at h; subst h; exact k
  | d :: m, m', D, D', h, k => by
    obtain ⟨B, N, r, a, b, rfl⟩ := h
    exact ⟨B, N, r ++ D', a, MR.append b k, rfl⟩

/-- which round the frame is of -/
def RoOk (ρ : Map) (rd ro : Option Nat) : Prop :=
  match rd with
  | none => ro = none
  | some l => ∃ B N, ρ l = some (B, N) ∧ ro = some B
theorem RoOk.mono {ρ σ : Map} {rd ro : Option Nat} (h : RoOk ρ rd ro) (s : Sub ρ σ) : RoOk σ rd ro := by
  cases rd with
  | none => exact h
  | some l => obtain ⟨B, N, a, b⟩ := h; exact ⟨B, N, s _ _ a, b⟩

def DrawSound (c : Ctx) (draw : DrawOk) : Prop :=
  ∀ app, AppOk c app → ∀ (id sz : Nat) (ops : Array Oper) (e e' : T AV) (h h' : Heap), draw c app sz ops.toList e h = .ok e' h' →
    ∀ (ρ : Map) (w : World) (a : Act) (ro : Option Nat) (Q : Exit → Act → World → Prop), HR ρ h w → WF h → FreeUp c ρ h → ER ρ e a.tmps sz →
    (∀ a' w' ρ', Good ρ h w ρ' h' w' → ER ρ' e' a'.tmps sz → a'.defers = a.defers → Q .normal a' w') → (Code.region id ops true).wpIn (wideR ro) 0 c.P Q a w

section scope
variable {F : Fence} {n : Nat} {P : Program} {b : Frame} {a : Act} {k : List Item} {cs : List Frame} {w : World} {Q : Exit → Act → World → Prop}
theorem stepR_scope {c : Code} : step P (lone (b.atR a (.code (.scope c) :: k)) cs w) = .next (lone (b.atR a (.code c :: .inScope c :: k)) cs w) :=
  step_lone_go (by simp [stepG, stepG.exec, Frame.atR])
theorem stepR_inScope {c : Code} : step P (lone (b.atR a (.inScope c :: k)) cs w) = .next (lone (b.atR a k) cs w) :=
  step_lone_go (by simp [stepG, stepG.exec, Frame.atR])
theorem wpIn_scope {c : Code} (h : c.wpIn F n P (Exit.noGoto Q) a w) : (Code.scope c).wpIn F n P Q a w := by
  intro b k cs hro hb hr
  have h0 : (lone (b.atR a (.code (.scope c) :: k)) cs w).fenced P F := fenced_calm hb hr rfl
  obtain ⟨e, a₁, w₁, hq, harr⟩ := h b (.inScope c :: k) cs hro hb hr
  cases e with
  | normal => exact ⟨.normal, a₁, w₁, hq, .head h0 stepR_scope (StepsIn.trans harr (.one (fenced_calm hb hr rfl) stepR_inScope))⟩
  | exit id =>
    have hx : exitTo id (.inScope c :: k) = exitTo id k := by simp [exitTo]
    exact ⟨_, a₁, w₁, hq, fun k' hk => .head h0 stepR_scope (harr.1 k' (by rw [hx]; exact hk)),
      fun hr' hk => let ⟨k₁, h1, h2⟩ := harr.2 hr' (by rw [hx]; exact hk); ⟨k₁, h1, .head h0 stepR_scope h2⟩⟩
  | goto l => exact hq.elim
  | ret => exact ⟨_, a₁, w₁, hq, .of_steps (.one h0 stepR_scope) harr⟩
  | panic ch => exact ⟨_, a₁, w₁, hq, .of_steps (.one h0 stepR_scope) harr⟩
  | outgrown => exact ⟨_, a₁, w₁, hq, .of_steps (.one h0 stepR_scope) harr⟩
end scope

theorem ALoop.get {ρ : Map} {h : Heap} {w : World} (hr : HR ρ h w) {l B N : Nat} (hl : ρ l = some (B, N)) {r : ALoop} (e : h.get l = .loop r) :
    ∃ fn tm D M, w.heap[B]? = some (.loop { state := r.state, pending := pendOf r.pending, fn := fn, tmps := tm, params := r.params.toArray, assign := r.assign, body := r.body, defers := D }) ∧ ER ρ r.e tm r.sz ∧ ρ r.defers = some (D, M) := by
  have := hr.ok l B N hl (by unfold Heap.ok; rw [e]; trivial)
  rw [e] at this; exact this

theorem enterLoop_ok {c : Ctx} {P : Program} {ρ : Map} {h h1 : Heap} {w : World} (hr : HR ρ h w) (wf : WF h) (fr : FreeUp c ρ h) {e : T AV} {sz : Nat} {tm : Array Value} (er : ER ρ e tm sz)
    {fn fn' : FuncId} {ps : Array Tmp} {assign body : Code} {rd ro : Option Nat} (ho : RoOk ρ rd ro) {l : Nat} {m : List Nat} (he : enterLoop h fn e sz ps.toList assign body rd = some (l, m, h1)) :
    ∃ B N mark w1 ρ1, (Instr.enterLoop fn' tm ps assign body ro).run P w = .ok (B, mark) w1 ∧ Good ρ h w ρ1 h1 w1 ∧ ρ1 l = some (B, N) ∧ MR ρ1 m mark := by
  unfold enterLoop at he
  cases rd with
  | none =>
    simp only [RoOk] at ho
    subst ho
    simp only [] at he
    cases he
    have g1 := Good.newBlock hr wf (fr.1 _ (Nat.le_refl _)) (.dfr true) (.deferred (some [])) 0 (fun r q => by cases q) (by simp only [ABR]; exact World.alloc_heap_new _ _)
    have n1 : (h.new (.dfr true)).nxt = h.nxt + 1 := rfl
    have hs1 : Sub ρ (upd ρ h.nxt (w.heap.size, 0)) := g1.sub
    have g2 := Good.newBlock g1.hr g1.wf ((g1.up fr).1 _ (Nat.le_refl _)) (.loop ⟨.ready, none, fn, e, sz, ps.toList, assign, body, h.nxt⟩)
      (.loop { state := .ready, pending := none, fn := fn', tmps := tm, params := ps, assign, body, defers := w.heap.size }) 0 (fun r q => by cases q)
      (by
        simp only [ABR]
        have hs2 := upd_sub (p := ((w.alloc (.deferred (some []))).heap.size, 0)) ((g1.up fr).1 _ (Nat.le_refl _))
        exact ⟨fn', tm, w.heap.size, 0, by rw [World.alloc_heap_new]; simp [pendOf], (er.mono hs1).mono hs2, hs2 _ _ (upd_same _ _ _)⟩)
    refine ⟨w.heap.size + 1, 0, _, _, _, run_enterLoop_outer _ _ _ _ _, g1.trans g2, ?_, ?_⟩
    · rw [n1, upd_same]; simp [World.size_alloc]
    · refine ⟨w.heap.size, 0, [], ?_, rfl, rfl⟩
      exact g2.sub _ _ (upd_same _ _ _)
  | some l0 =>
    obtain ⟨B0, N0, hl0, rfl⟩ := ho
    simp only [] at he
    split at he
    · rename_i r hg
      cases he
      obtain ⟨fn0, tm0, D, M, q1, q2, q3⟩ := ALoop.get hr hl0 hg
      have hs2 := upd_sub (p := (w.heap.size, 0)) (fr.1 _ (Nat.le_refl _))
      have g := Good.newBlock hr wf (fr.1 _ (Nat.le_refl _)) (.loop ⟨.ready, none, fn, e, sz, ps.toList, assign, body, r.defers⟩)
        (.loop { state := .ready, pending := none, fn := fn', tmps := tm, params := ps, assign, body, defers := D }) 0 (fun r q => by cases q)
        (by
          simp only [ABR]
          exact ⟨fn', tm, D, M, by rw [World.alloc_heap_new]; simp [pendOf], er.mono hs2, hs2 _ _ q3⟩)
      refine ⟨w.heap.size, 0, [], _, _, ?_, g, upd_same _ _ _, rfl⟩
      unfold Instr.enterLoop
      simp only [Sem.run_bind, run_getLoop q1, run_newObj_alloc, Result.andThen, Sem.run_pure]
    · cases he

section
variable {c : Ctx} (k : CtxOk c) {draw : DrawOk} (dc : DrawCalm draw) (dr : DrawSound c draw) {app : App} (ha : AppOk c app) {lim : Nat} {fn : FuncId} {sz : Nat}
include k dc dr ha

/-- what is said of a code -/
def CodeOk (c : Ctx) (sz : Nat) (rd : Option Nat) (code : Code) (run : St → Res) : Prop :=
  ∀ s x s', run s = .ok x s' → ∀ (ro : Option Nat) (ρ : Map) (w : World) (a : Act) (Q : Exit → Act → World → Prop), RoOk ρ rd ro → HR ρ s.h w → WF s.h → FreeUp c ρ s.h → ER ρ s.e a.tmps sz → MR ρ s.m a.defers →
    (∀ a' w' ρ', Good ρ s.h w ρ' s'.h w' → ER ρ' s'.e a'.tmps sz → MR ρ' s'.m a'.defers → Q (exitOf x) a' w') → code.wpIn (wideR ro) 0 c.P Q a w

omit k dc dr ha in
theorem loop_ok {rd : Option Nat} {code : Code} {ra : St → Res} (ih : CodeOk c sz rd code ra) : CodeOk c sz rd (.loop code) (exLoop lim ra) := by
  intro s x s' he ro ρ w a Q ho hr wf fr er mr hQ
  intro b kk cs hro hb hroom
  have key : ∀ n s x s', exLoop n ra s = .ok x s' → ∀ (ρ : Map) (w : World) (a : Act) (Q : Exit → Act → World → Prop), RoOk ρ rd ro → HR ρ s.h w → WF s.h → FreeUp c ρ s.h → ER ρ s.e a.tmps sz → MR ρ s.m a.defers →
      (∀ a' w' ρ', Good ρ s.h w ρ' s'.h w' → ER ρ' s'.e a'.tmps sz → MR ρ' s'.m a'.defers → Q (exitOf x) a' w') →
      ∃ e a' w', Q e a' w' ∧ ArrivesIn (Machine.fenced c.P (wideR ro)) c.P (lone (b.atR a (.code code :: .inLoop code :: kk)) cs w) b kk cs e a' w' := by
    intro n
    induction n with
    | zero => intro s x s' he; cases he
    | succ n ihn =>
      intro s x s' he ρ w a Q ho hr wf fr er mr hQ
      have he' : (match ra s with
        | .ok x s1 => (match x with
          | .normal => exLoop n ra s1
          | x => .ok x s1)
        | .bad l => .bad l) = Res.ok x s' := he
      cases hs : ra s with
      | bad l => rw [hs] at he'; cases he'
      | ok x1 s1 =>
        rw [hs] at he'
        simp only [] at he'
        have h1 := ih s x1 s1 hs ro ρ w a (fun e a' w' => e = exitOf x1 ∧ ∃ ρ', Good ρ s.h w ρ' s1.h w' ∧ ER ρ' s1.e a'.tmps sz ∧ MR ρ' s1.m a'.defers) ho hr wf fr er mr
          (fun a' w' ρ' g1 g2 g3 => ⟨rfl, ρ', g1, g2, g3⟩)
        obtain ⟨e, a₁, w₁, ⟨rfl, ρ1, g1, g2, g3⟩, harr⟩ := h1 b (.inLoop code :: kk) cs hro hb hroom
        cases x1 with
        | normal =>
          simp only [] at he'
          obtain ⟨e₂, a₂, w₂, hq₂, harr₂⟩ := ihn s1 x s' he' ρ1 w₁ a₁ Q (ho.mono g1.sub) g1.hr g1.wf (g1.up fr) g2 g3 (fun a' w' ρ' q1 q2 q3 => hQ a' w' ρ' (g1.trans q1) q2 q3)
          exact ⟨e₂, a₂, w₂, hq₂, .of_steps (StepsIn.trans harr (.one (fenced_calm hb hroom rfl) stepR_inLoop)) harr₂⟩
        | exit id =>
          simp only [] at he'; cases he'
          exact ⟨_, a₁, w₁, hQ _ _ _ g1 g2 g3, .pass (x := .inLoop code) rfl (fun _ _ => .inl (by simp [exitOf])) harr⟩
        | ret =>
          simp only [] at he'; cases he'
          exact ⟨_, a₁, w₁, hQ _ _ _ g1 g2 g3, .pass (x := .inLoop code) rfl (fun _ _ => .inl (by simp [exitOf])) harr⟩
  obtain ⟨e, a', w', hq, harr⟩ := key lim s x s' he ρ w a Q ho hr wf fr er mr hQ
  exact ⟨e, a', w', hq, .of_steps (.one (fenced_calm hb hroom rfl) stepR_loop) harr⟩

omit dc dr in
theorem callV_ok {ρ : Map} {h h' : Heap} {w : World} (hr : HR ρ h w) (wf : WF h) (fr : FreeUp c ρ h) {f v : AV} {args : List AV} (he : callV c app f args h = .ok v h') {x : Value} (hx : VR ρ f x) {A : List Value} (hA : VRs ρ args A) :
    ∃ fi F C, x = .func (.func fi) F C ∧ (callFunc fi (F ++ A.toArray ++ C)).run c.P w = .ok (.enter fi (F ++ A.toArray ++ C)) w ∧
      CallsIn Fence.wide 0 c.P fi (F ++ A.toArray ++ C) w (EndR fun z w' => ∃ ρ', Good ρ h w ρ' h' w' ∧ VR ρ' v z) := by
  unfold callV at he
  split at he
  · rename_i g first cap
    split at he
    · rename_i fi
      split at he
      · rename_i hbo
        simp only [VR, FR] at hx
        obtain ⟨_, F, C, rfl, e2, e3, rfl⟩ := hx
        obtain ⟨nx, w1, q1, q2⟩ := ha _ _ _ _ _ he ρ w (F ++ A ++ C) hr wf fr (VRs.append (VRs.append e2 hA) e3)
        unfold hasBody at hbo
        cases hf : c.fns.get none fi with
        | none => rw [hf] at hbo; cases hbo
        | some fn =>
          rw [hf] at hbo
          simp only [] at hbo
          cases hbd : fn.body with
          | none => rw [hbd] at hbo; cases hbo
          | some bd =>
            have hP := k.fns fi fn hf
            have hnm : fn.name ≠ "runtime.NumGoroutine" := by simpa using k.names fi fn hP
            have hrun : ∀ X, (callFunc fi X).run c.P w = .ok (.enter fi X) w := fun X => by simp [callFunc, hP, hnm, hbd, Sem.run]
            rw [hrun] at q1
            cases q1
            refine ⟨fi, F.toArray, C.toArray, rfl, hrun _, ?_⟩
            have : (F.toArray ++ A.toArray ++ C.toArray) = (F ++ A ++ C).toArray := by apply Array.ext'; simp
            rw [this]
            exact q2
      · cases he
    · cases he
  · cases he

theorem exec_ok (rd : Option Nat) : ∀ code, CodeOk c sz rd code (exec c draw app lim fn sz rd code) := by
  intro code
  induction code with
  | skip =>
    intro s x s' he ro ρ w a Q ho hr wf fr er mr hQ
    cases he
    exact wpIn_skip (hQ a w ρ (Good.refl hr wf) er mr)
  | region id ops d =>
    intro s x s' he ro ρ w a Q ho hr wf fr er mr hQ
    cases d with
    | false =>
      have he' : (match runOps c app sz ops.toList ops.toList s.e s.h with
        | .ok e h => Res.ok .normal ⟨e, h, s.m⟩
        | .bad l => .bad l) = Res.ok x s' := he
      cases hs : runOps c app sz ops.toList ops.toList s.e s.h with
      | bad l => rw [hs] at he'; cases he'
      | ok e1 h1 =>
        rw [hs] at he'; cases he'
        refine wpIn_region (runOps_ok k ha (List.range ops.size) ops.toList ?_ hr wf fr er hs fun a' w' ρ' g1 g2 g3 => hQ a' w' ρ' g1 g2 (by rw [g3]; exact mr.mono g1.sub))
        apply List.ext_getElem?
        intro i
        simp only [List.getElem?_map]
        by_cases hi : i < ops.size
        · simp [hi]
        · simp [hi]
    | true =>
      have he' : (match draw c app sz ops.toList s.e s.h with
        | .ok e h => Res.ok .normal ⟨e, h, s.m⟩
        | .bad l => .bad l) = Res.ok x s' := he
      cases hs : draw c app sz ops.toList s.e s.h with
      | bad l => rw [hs] at he'; cases he'
      | ok e1 h1 =>
        rw [hs] at he'; cases he'
        exact dr app ha id sz ops s.e e1 s.h h1 hs ρ w a ro Q hr wf fr er fun a' w' ρ' g1 g2 g3 => hQ a' w' ρ' g1 g2 (by rw [g3]; exact mr.mono g1.sub)
  | seq ca cb iha ihb =>
    intro s x s' he ro ρ w a Q ho hr wf fr er mr hQ
    have he' : (match exec c draw app lim fn sz rd ca s with
      | .ok x s1 => (match x with
        | .normal => exec c draw app lim fn sz rd cb s1
        | x => .ok x s1)
      | .bad l => .bad l) = Res.ok x s' := he
    cases hs : exec c draw app lim fn sz rd ca s with
    | bad l => rw [hs] at he'; cases he'
    | ok x1 s1 =>
      rw [hs] at he'
      refine wpIn_seq (iha s x1 s1 hs ro ρ w a _ ho hr wf fr er mr fun a1 w1 ρ1 g1 g2 g3 => ?_)
      cases x1 with
      | normal => exact ihb s1 x s' he' ro ρ1 w1 a1 Q (ho.mono g1.sub) g1.hr g1.wf (g1.up fr) g2 g3 fun a' w' ρ' q1 q2 q3 => hQ a' w' ρ' (g1.trans q1) q2 q3
      | exit id => simp only [] at he'; cases he'; exact hQ _ _ _ g1 g2 g3
      | ret => simp only [] at he'; cases he'; exact hQ _ _ _ g1 g2 g3
  | cond cx ca cb iha ihb =>
    intro s x s' he ro ρ w a Q ho hr wf fr er mr hQ
    have he' : (match ev s.e cx with
      | .bool b => (match b with | true => exec c draw app lim fn sz rd ca s | false => exec c draw app lim fn sz rd cb s)
      | .anyb => two s (calm ca) (calm cb) (exec c draw app lim fn sz rd ca s.unlog) (exec c draw app lim fn sz rd cb s.unlog)
      | _ => .bad ["cond"]) = Res.ok x s' := he
    have hv := ev_ok er cx
    split at he'
    · rename_i b hb
      rw [hb] at hv
      simp only [VR] at hv
      refine wpIn_cond hv ?_
      cases b with
      | true => exact iha s x s' he' ro ρ w a Q ho hr wf fr er mr hQ
      | false => exact ihb s x s' he' ro ρ w a Q ho hr wf fr er mr hQ
    · rename_i hb
      rw [hb] at hv
      simp only [VR] at hv
      obtain ⟨b, hv⟩ := hv
      refine wpIn_cond hv ?_
      unfold two at he'
      split at he'
      · cases he'
      · rename_i l hl
        split at he'
        · cases he'
        · rename_i m hm
          split at he'
          · cases he'
          · rename_i x1 s1 h1
            split at he'
            · split at he'
              · cases he'
              · rename_i y s2 h2
                split at he'
                · split at he'
                  · cases he'
                  · rename_i g hg
                    cases he'
                    obtain ⟨a1, a2, a3⟩ := exec_calm dc hl h1
                    obtain ⟨b1, b2, b3⟩ := exec_calm dc hm h2
                    obtain ⟨w1, w2⟩ := joinH_weak a1 b1 hg
                    have er1 : ER ρ s.unlog.e a.tmps sz := er
                    have mr1 : MR ρ s.unlog.m a.defers := mr
                    cases b with
                    | true =>
                      refine iha s.unlog _ s1 h1 ro ρ w a Q ho hr.unlog wf.unlog fr er1 mr1 fun a' w' ρ' g1 g2 g3 => hQ a' w' ρ' (g1.ofUnlog.weak w1) ⟨g2.1, fun t => ?_⟩ (by rw [show s.m = s1.m from a3.symm]; exact g3)
                      rw [joinE_get]
                      split
                      · split
                        · exact g2.2 t
                        · simp only [VR]
                      · rename_i ht
                        rw [← show s1.e.get und t = s.e.get und t from a2 t (fun q => ht (List.mem_append_left _ q))]
                        exact g2.2 t
                    | false =>
                      refine ihb s.unlog _ s2 h2 ro ρ w a Q ho hr.unlog wf.unlog fr er1 mr1 fun a' w' ρ' g1 g2 g3 => hQ a' w' ρ' (g1.ofUnlog.weak w2) ⟨g2.1, fun t => ?_⟩ (by rw [show s.m = s2.m from b3.symm]; exact g3)
                      rw [joinE_get]
                      split
                      · split
                        · rename_i hq
                          rw [avEq_eq hq]; exact g2.2 t
                        · simp only [VR]
                      · rename_i ht
                        rw [← show s2.e.get und t = s.e.get und t from b2 t (fun q => ht (List.mem_append_right _ q))]
                        exact g2.2 t
                · cases he'
            · cases he'
    · cases he'
  | block id ca iha =>
    intro s x s' he ro ρ w a Q ho hr wf fr er mr hQ
    have he' : (match exec c draw app lim fn sz rd ca s with
      | .ok x s' => (match x with
        | .exit i => (match Nat.beq i id with | true => .ok .normal s' | false => .ok (.exit i) s')
        | x => .ok x s')
      | .bad l => .bad l) = Res.ok x s' := he
    cases hs : exec c draw app lim fn sz rd ca s with
    | bad l => rw [hs] at he'; cases he'
    | ok x1 s1 =>
      rw [hs] at he'
      refine wpIn_block (iha s x1 s1 hs ro ρ w a _ ho hr wf fr er mr fun a1 w1 ρ1 g1 g2 g3 => ?_)
      cases x1 with
      | normal => simp only [] at he'; cases he'; exact hQ _ _ _ g1 g2 g3
      | ret => simp only [] at he'; cases he'; exact hQ _ _ _ g1 g2 g3
      | exit i =>
        simp only [] at he'
        split at he'
        · rename_i hi
          cases he'
          simp only [exitOf, Exit.inBlock]
          rw [if_pos (beqT hi)]; exact hQ _ _ _ g1 g2 g3
        · rename_i hi
          cases he'
          simp only [exitOf, Exit.inBlock]
          rw [if_neg (beqN hi)]; exact hQ _ _ _ g1 g2 g3
  | loop ca iha => exact loop_ok (lim := lim) iha
  | rangeFunc f ps assign body _ _ =>
    intro s x s' he ro ρ w a Q ho hr wf fr er mr hQ
    have he' : (match enterLoop s.h fn s.e sz ps.toList assign body rd with
      | none => .bad ["range"]
      | some (l, m, h) => (match callV c app (ev s.e f) [.fn (.yield l) [] []] h with
        | .bad l => .bad l
        | .ok _ h' => (match h'.get l with
          | .loop r => (match r.state with
            | .busy => .bad ["busy"]
            | _ => (match r.pending with
              | none => .ok .normal ⟨s.e, h'.put l (.loop { r with state := .exhausted }), m ++ s.m⟩
              | some x => .ok x ⟨s.e, h'.put l (.loop { r with state := .exhausted }), m ++ s.m⟩))
          | _ => .bad ["loop"]))) = Res.ok x s' := he
    cases hl : enterLoop s.h fn s.e sz ps.toList assign body rd with
    | none => rw [hl] at he'; cases he'
    | some lmh =>
      obtain ⟨l, m, h1⟩ := lmh
      rw [hl] at he'
      simp only [] at he'
      cases hc : callV c app (ev s.e f) [.fn (.yield l) [] []] h1 with
      | bad l => rw [hc] at he'; cases he'
      | ok v h2 =>
        rw [hc] at he'
        simp only [] at he'
        refine wpIn_rangeFunc fun fn' _ => ?_
        obtain ⟨B, N, mark, w1, ρ1, q1, g1, hl1, hm1⟩ := enterLoop_ok (P := c.P) (fn' := fn') hr wf fr er ho hl
        have hfv := VR.mono g1.sub _ (ev_ok er f)
        have hy : VRs ρ1 [AV.fn (.yield l) [] []] [Value.func (.yield B) #[] #[]] := by
          simp only [VRs, VR, FR]
          exact ⟨_, _, ⟨_, [], [], ⟨B, N, hl1, rfl⟩, rfl, rfl, rfl⟩, rfl, rfl⟩
        obtain ⟨fi, F, C, hfe, hcf, hcalls⟩ := callV_ok k ha g1.hr g1.wf (g1.up fr) hc hfv hy
        refine ⟨B, mark, w1, { target := .fn (.func fi) C, args := F ++ #[Value.func (.yield B) #[] #[]] }, w1, fi, F ++ #[Value.func (.yield B) #[] #[]] ++ C, w1, q1, ?_, fun _ _ => trivial, ?_, fun q => by simp [wideR, Fence.wide] at q, ?_⟩
        · simp only [resolve, hfe, Deferred.ofValue, Sem.run_pure]
          simp [Act.eval]
        · simp only [invoke]; exact hcf
        · refine CallsIn.mono (callsIn_ro hcalls) fun e w' r => ?_
          cases e with
          | panicked ch => exact r.elim
          | outgrown => exact r.elim
          | returned z =>
            obtain ⟨ρ2, g2, _⟩ := r
            split at he'
            · rename_i r hgl
              have hl2 := g2.sub _ _ hl1
              obtain ⟨fn0, tm, D, M, p1, p2, p3⟩ := ALoop.get g2.hr hl2 hgl
              have hlt := g2.hr.lt l B N hl2
              have hnb : r.state ≠ .busy := by intro hb; rw [hb] at he'; cases he'
              have g3 := Good.putBlock g2.hr g2.wf hl2 (.loop r) (.loop { r with state := .exhausted })
                (.loop { state := .exhausted, pending := pendOf r.pending, fn := fn0, tmps := tm, params := r.params.toArray, assign := r.assign, body := r.body, defers := D }) hgl rfl (by simp) rfl
                (by simp only [ABR]; exact ⟨fn0, tm, D, M, World.putObj_heap_same hlt, p2, p3⟩)
              have gg := (g1.trans g2).trans g3
              refine ⟨pendOf r.pending, _, run_endLoop p1 hnb, ?_⟩
              split at he'
              · cases he'
              · split at he'
                · rename_i hp
                  cases he'
                  have hq := hQ { a with defers := mark ++ a.defers } _ ρ2 gg (er.mono gg.sub) (MR.append (hm1.mono (g2.trans g3).sub) (mr.mono gg.sub))
                  simp only [hp, pendOf] at hq ⊢
                  exact hq
                · rename_i y hp
                  cases he'
                  have hq := hQ { a with defers := mark ++ a.defers } _ ρ2 gg (er.mono gg.sub) (MR.append (hm1.mono (g2.trans g3).sub) (mr.mono gg.sub))
                  cases x with
                  | normal => simp only [hp, pendOf, exCode] at hq ⊢; exact hq
                  | exit id => simp only [hp, pendOf, exCode] at hq ⊢; exact wpIn_exit hq
                  | ret => simp only [hp, pendOf, exCode] at hq ⊢; exact wpIn_ret hq
            · cases he'
  | exit id =>
    intro s x s' he ro ρ w a Q ho hr wf fr er mr hQ
    cases he
    exact wpIn_exit (hQ a w ρ (Good.refl hr wf) er mr)
  | scope ca iha =>
    intro s x s' he ro ρ w a Q ho hr wf fr er mr hQ
    refine wpIn_scope (iha s x s' he ro ρ w a _ ho hr wf fr er mr fun a1 w1 ρ1 g1 g2 g3 => ?_)
    cases x <;> exact hQ _ _ _ g1 g2 g3
  | label l =>
    intro s x s' he ro ρ w a Q ho hr wf fr er mr hQ
    cases he
    exact wpIn_label (hQ a w ρ (Good.refl hr wf) er mr)
  | goto l => intro s x s' he; cases he
  | ret =>
    intro s x s' he ro ρ w a Q ho hr wf fr er mr hQ
    cases he
    exact wpIn_ret (hQ a w ρ (Good.refl hr wf) er mr)
  | refuse why => intro s x s' he; cases he
end
end Go.Ax
