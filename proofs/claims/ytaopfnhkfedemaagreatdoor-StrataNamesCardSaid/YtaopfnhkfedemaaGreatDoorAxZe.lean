/-
  AxZe: a closed function that the evaluator has run: what its call comes to.
-/
import Derived.Test.YtaopfnhkfedemaaGreatDoorAxZd
set_option linter.unusedVariables false
set_option linter.unusedSimpArgs false
namespace Go.Ax

/-- are values of a type compared without asking for more -/
def eqOk (P : Program) (t : TypeId) : Bool :=
  !P.stoodInHeld t && !P.eqGuardType P.depth t && (match P.underlying t with | some (.struct fs) => fs.toList.all (fun f => !(f.name == "_")) | _ => true)
noncomputable def ctxG (P : Program) (g0 : Heap) (kn : T (Option (List (List AV × AV)))) : Ctx := ⟨P, ofL P.types.toList, ofL P.funcs.toList, T.put false ((List.range P.types.size).map (eqOk P)) .leaf 0, g0, kn⟩
noncomputable def ctxOf (P : Program) : Ctx := ctxG P h0 .leaf
def namesOk (P : Program) : Bool := P.funcs.toList.all fun fn => !(fn.name == "runtime.NumGoroutine")

theorem ctxG_ok {P : Program} {g0 : Heap} {kn : T (Option (List (List AV × AV)))} (hn : namesOk P = true) : CtxOk (ctxG P g0 kn) := by
  refine ⟨fun t i h => ?_, fun f fn h => ?_, fun f fn h => ?_, fun t h => ?_⟩
  · have h1 : (ofL P.types.toList).get none t = some i := h
    rw [get_ofL] at h1
    have h2 : P.types[t]? = some i := by simpa using h1
    have h3 : P.info? t = some i := by unfold Tables.info?; rw [if_pos (Array.getElem?_eq_some_iff.1 h2).1]; exact h2
    exact h3
  · have h1 : (ofL P.funcs.toList).get none f = some fn := h
    rw [get_ofL] at h1
    have h2 : P.funcs[f]? = some fn := by simpa using h1
    exact h2
  · unfold namesOk at hn
    rw [List.all_eq_true] at hn
    have h1 : P.funcs[f]? = some fn := h
    have := hn fn (by
      obtain ⟨a, b⟩ := Array.getElem?_eq_some_iff.1 h1
      rw [← b]; simp)
    simpa using this
  · have h1 : T.get false (T.put false ((List.range P.types.size).map (eqOk P)) .leaf 0) t = true := h
    rw [get_put] at h1
    simp only [Nat.zero_le, if_true, Nat.sub_zero, get_leaf] at h1
    cases hq : ((List.range P.types.size).map (eqOk P))[t]? with
    | none => rw [hq] at h1; simp at h1
    | some b =>
      rw [hq] at h1
      simp at h1; subst h1
      rw [List.getElem?_map] at hq
      cases hr : (List.range P.types.size)[t]? with
      | none => rw [hr] at hq; cases hq
      | some x =>
        rw [hr] at hq
        have hx : x = t := by
          rw [List.getElem?_range] at hr
          · cases hr; rfl
          · by_cases hlt : t < P.types.size
            · exact hlt
            · rw [List.getElem?_eq_none (by simpa using hlt)] at hr; cases hr
        subst hx
        simp only [Option.map_some, Option.some.injEq] at hq
        unfold eqOk at hq
        rw [Bool.and_eq_true, Bool.and_eq_true] at hq
        obtain ⟨⟨q1, q2⟩, q3⟩ := hq
        have q1' : P.stoodInHeld x = false := by simpa using q1
        have q2' : P.eqGuardType P.depth x = false := by simpa using q2
        refine ⟨q1', q2', fun fs hfs f hf => ?_⟩
        have hP : (ctxG P g0 kn).P = P := rfl
        rw [hP] at hfs
        rw [hfs] at q3
        simp only [] at q3
        rw [List.all_eq_true] at q3
        simpa using q3 f hf

theorem ctxOf_ok {P : Program} (hn : namesOk P = true) : CtxOk (ctxOf P) := ctxG_ok hn

theorem isTrue_spec {r : Ans} (h : r.isTrue = true) : ∃ h', r = .ok (.bool true) h' := by
  unfold Ans.isTrue at h
  cases r with
  | bad l => cases h
  | ok v h' =>
    simp only [] at h
    cases v <;> simp only [] at h <;> try (cases h; done)
    subst h; exact ⟨h', rfl⟩

def noExt : Ext := fun _ _ _ _ _ => .bad ["extern"]
theorem noExt_ok (c : Ctx) : ExtOk c noExt := by
  intro app ha f fn args h v h' he
  cases he

/-- what a call of a closed function leaves of the world -/
def Left0 (w w' : World) : Prop := w'.os = w.os ∧ w'.output = w.output ∧ w.heap.size ≤ w'.heap.size ∧ ∀ b, b < w.heap.size → w'.heap[b]? = w.heap[b]?

theorem Left0.kept {w w' : World} (h : Left0 w w') (may : MemPlace → Prop) : w.keptBut w' may := by
  refine ⟨h.1, h.2.1, fun i hi => ?_⟩
  have := (World.keptBut_refl w may).2.2 i hi
  rw [h.2.2.2 i hi]
  exact this

theorem empty_hr (w : World) : HR (fun _ => none) h0 w := ⟨(fun i B N e => by cases e), (fun i B N e => by cases e), (fun i j B N M _ e => by cases e), fun i r e => by
    have : h0.get i = .none := get_tab4 _ i
    rw [this] at e; cases e⟩
theorem empty_wf : WF h0 := by
  refine ⟨fun i _ => get_tab4 _ i, fun i r q e => ?_, fun i r q t e => ?_, fun q _ => rfl⟩
  · have : h0.get i = .none := get_tab4 _ i
    rw [this] at e; cases e
  · have : h0.get i = .none := get_tab4 _ i
    rw [this] at e; cases e

/-! ## packages' variables, and calls that are known -/
/-- a heap of variables alone -/
structure BaseOk (g0 : Heap) : Prop where
  wf : WF g0
  only : ∀ i, g0.get i = .none ∨ ∃ r, g0.get i = .gl r
theorem h0_base : BaseOk h0 := ⟨empty_wf, fun i => .inl (get_tab4 _ i)⟩
noncomputable def avs1 (a : List AV) : List AV → Bool :=
  List.rec (motive := fun _ => List AV → Bool) (fun b => match b with | [] => true | _ :: _ => false)
    (fun x _ ih b => match b with | [] => false | y :: b => (match avEq x y with | true => ih b | false => false)) a
theorem avs1_eq : ∀ {a b : List AV}, avs1 a b = true → a = b
  | [], [], _ => rfl
  | [], y :: b, h => by cases h
  | x :: a, [], h => by cases h
  | x :: a, y :: b, h => by
    have h' : (match avEq x y with | true => avs1 a b | false => false) = true := h
    split at h'
    · rename_i hxy; rw [avEq_eq hxy, avs1_eq h']
    · cases h'
/-- the same, parts of a tuple too -/
noncomputable def avEqD (a b : AV) : Bool := match a with | .tup l => (match b with | .tup m => avs1 l m | _ => false) | a => avEq a b
theorem avEqD_eq {a b : AV} (h : avEqD a b = true) : a = b := by
  unfold avEqD at h
  split at h
  · split at h
    · rw [avs1_eq h]
    · cases h
  · exact avEq_eq h
noncomputable def ansIs (r : Ans) (v : AV) : Bool := match r with | .ok u _ => (match avEqD u v with | true => clo v | false => false) | .bad _ => false
theorem ansIs_ok {r : Ans} {v : AV} (h : ansIs r v = true) : (∃ h', r = .ok v h') ∧ clo v = true := by
  unfold ansIs at h
  split at h
  · rename_i u h'
    split at h
    · rename_i hq
      exact ⟨⟨h', by rw [avEqD_eq hq]⟩, h⟩
    · cases h
  · cases h

noncomputable def mapG (g0 : Heap) : Map := fun i => match g0.get i with | .gl _ => some (i, 0) | _ => none
theorem mapG_some {g0 : Heap} {i B N : Nat} (h : mapG g0 i = some (B, N)) : B = i ∧ ∃ r, g0.get i = .gl r := by
  unfold mapG at h
  split at h
  · rename_i r hr; cases h; exact ⟨rfl, r, hr⟩
  · cases h
theorem mapG_of {g0 : Heap} {i : Nat} {r : Row} (h : g0.get i = .gl r) : mapG g0 i = some (i, 0) := by
  unfold mapG; rw [h]

/-- A RUN FROM THE VARIABLES ALONE: THE CALL IS KNOWN. -/
theorem base_run {c : Ctx} (k : CtxOk c) (kn : KnOk c) (hm : c.P.follows .mixedOrders = true) {ext : Ext} (hx : ExtOk c ext) (hb : BaseOk c.g0) {f : FuncId} {args : List AV} {v : AV} {lim n : Nat}
    (hrun : ansIs (app c drawA lim ext n (.f f) args c.g0) v = true) : KnownOk c f args v := by
  intro w A hw hA
  obtain ⟨⟨h', hr⟩, hv⟩ := ansIs_ok hrun
  have hhr : HR (mapG c.g0) c.g0 w := by
    refine ⟨fun i B N e => ?_, fun i B N e o => ?_, fun i j B N M hij e1 e2 _ _ => ?_, fun i r e => ⟨0, mapG_of e⟩⟩
    · obtain ⟨rfl, r, hr⟩ := mapG_some e; exact (hw _ r hr).1
    · obtain ⟨rfl, r, hr⟩ := mapG_some e
      rw [hr]
      exact fun j hj => by
        obtain ⟨x, x1, x2⟩ := (hw _ r hr).2 j hj
        exact ⟨x, x1, x2.mono (fun i p q => by cases q)⟩
    · obtain ⟨h1, _⟩ := mapG_some e1
      obtain ⟨h2, _⟩ := mapG_some e2
      exact absurd (h1.symm.trans h2) hij
  have hfr : FreeUp c (mapG c.g0) c.g0 := ⟨fun i hi => by unfold mapG; rw [hb.wf.fresh i hi], fun i r e => e⟩
  obtain ⟨nx, w1, q1, q2⟩ := app_ok k kn drawA_calm (drawA_sound k hm) hx n (.f f) args c.g0 v h' hr (mapG c.g0) w A hhr hb.wf hfr (VRs.mono (fun i p q => by cases q) _ hA)
  refine ⟨nx, w1, q1, q2.mono fun z w' ⟨ρ', g, hz⟩ => ⟨⟨g.same, fun b hlt => ?_⟩, clo_ok hv hz⟩⟩
  rcases hb.only b with e | ⟨r, e⟩
  · refine g.frame b hlt fun i N q => ?_
    obtain ⟨rfl, r, hr⟩ := mapG_some q
    rw [e] at hr; cases hr
  · exact g.glw b r e
/-- what is known does not hang on what else is known -/
theorem KnownOk.other {P : Program} {g0 : Heap} {kn kn' : T (Option (List (List AV × AV)))} {f : FuncId} {args : List AV} {v : AV} (h : KnownOk (ctxG P g0 kn) f args v) : KnownOk (ctxG P g0 kn') f args v := h

/-- a table of them -/
noncomputable def knT (xs : List (FuncId × List (List AV × AV))) : T (Option (List (List AV × AV))) :=
  List.rec (motive := fun _ => T (Option (List (List AV × AV)))) .leaf (fun p _ t => t.set none p.1 (some p.2)) xs
theorem knT_mem : ∀ {xs : List (FuncId × List (List AV × AV))} {f : FuncId} {l : List (List AV × AV)}, (knT xs).get none f = some l → (f, l) ∈ xs
  | [], f, l, h => by
    have : T.get none (.leaf : T (Option (List (List AV × AV)))) f = some l := h
    rw [get_leaf] at this; cases this
  | p :: xs, f, l, h => by
    have h' : T.get none ((knT xs).set none p.1 (some p.2)) f = some l := h
    rw [get_set] at h'
    by_cases e : f = p.1
    · rw [if_pos e] at h'
      cases h'
      rw [e]; exact List.mem_cons_self
    · rw [if_neg e] at h'
      exact List.mem_cons_of_mem _ (knT_mem h')

/-! ### the variables -/
def rowG (cells : List AV) : Row := ⟨0, cells.length, .leaf, cells, none⟩
noncomputable def glHeap (G : Nat) (l : List (Nat × List AV)) : Heap := List.rec (motive := fun _ => Heap) ⟨G, .tab4 .none, .leaf, []⟩ (fun p _ h => h.put p.1 (.gl (rowG p.2))) l
noncomputable def glOk (G : Nat) (l : List (Nat × List AV)) : Bool := List.rec (motive := fun _ => Bool) true (fun p _ r => match Nat.ble (p.1 + 1) G with | true => (match clAll p.2 with | true => r | false => false) | false => false) l
theorem glHeap_nxt (G : Nat) : ∀ l, (glHeap G l).nxt = G
  | [] => rfl
  | p :: l => glHeap_nxt G l
theorem glHeap_tip (G : Nat) : ∀ l q, (glHeap G l).tip q = none
  | [], q => rfl
  | p :: l, q => glHeap_tip G l q
theorem glHeap_get (G : Nat) : ∀ l i, (glHeap G l).get i = .none ∨ ∃ cells, (i, cells) ∈ l ∧ (glHeap G l).get i = .gl (rowG cells)
  | [], i => .inl (get_tab4 _ i)
  | p :: l, i => by
    rw [show glHeap G (p :: l) = (glHeap G l).put p.1 (.gl (rowG p.2)) from rfl, Heap.get_put]
    by_cases e : i = p.1
    · rw [if_pos e]; exact .inr ⟨p.2, by rw [e]; exact List.mem_cons_self, rfl⟩
    · rw [if_neg e]
      rcases glHeap_get G l i with h | ⟨c, h1, h2⟩
      · exact .inl h
      · exact .inr ⟨c, List.mem_cons_of_mem _ h1, h2⟩
theorem glOk_mem {G : Nat} : ∀ {l : List (Nat × List AV)}, glOk G l = true → ∀ p ∈ l, p.1 < G ∧ clAll p.2 = true
  | [], _, p, hp => by cases hp
  | x :: l, h, p, hp => by
    have h' : (match Nat.ble (x.1 + 1) G with | true => (match clAll x.2 with | true => glOk G l | false => false) | false => false) = true := h
    split at h'
    · rename_i h1
      split at h'
      · rename_i h2
        rcases List.mem_cons.1 hp with rfl | hp
        · exact ⟨bleT h1, h2⟩
        · exact glOk_mem h' p hp
      · cases h'
    · cases h'
theorem clAll_at : ∀ {l : List AV} {j : Nat} {v : AV}, clAll l = true → l[j]? = some v → clo v = true
  | [], j, v, _, h => by simp at h
  | x :: l, j, v, h, hj => by
    have h' : (match clo x with | true => clAll l | false => false) = true := h
    split at h'
    · rename_i hx
      cases j with
      | zero => simp at hj; subst hj; exact hx
      | succ j => exact clAll_at h' (by simpa using hj)
    · cases h'
theorem rowG_get (cells : List AV) {j : Nat} (h : j < cells.length) : cells[j]? = some ((rowG cells).get j) := by
  unfold Row.get rowG
  simp only []
  rw [get_leaf]
  simp only []
  rw [Nat.mod_eq_of_lt h, nth_eq, List.getElem?_eq_getElem h]
theorem glHeap_base {G : Nat} {l : List (Nat × List AV)} (h : glOk G l = true) : BaseOk (glHeap G l) := by
  refine ⟨⟨fun i hi => ?_, fun i r q e => ?_, fun i r q t e => ?_, fun q _ => glHeap_tip G l q⟩, fun i => ?_⟩
  · rw [glHeap_nxt] at hi
    rcases glHeap_get G l i with e | ⟨c, e1, _⟩
    · exact e
    · have := (glOk_mem h _ e1).1; omega
  · rcases glHeap_get G l i with e' | ⟨c, _, e'⟩ <;> rw [e'] at e <;> cases e
  · rcases glHeap_get G l i with e' | ⟨c, _, e'⟩ <;> rw [e'] at e <;> cases e
  · rcases glHeap_get G l i with e' | ⟨c, _, e'⟩
    · exact .inl e'
    · exact .inr ⟨_, e'⟩
theorem glHeap_cells {G : Nat} {l : List (Nat × List AV)} (h : glOk G l = true) : ∀ i r, (glHeap G l).get i = .gl r → ∀ j, j < r.n → clo (r.get j) = true := fun i r e j hj => by
  rcases glHeap_get G l i with e' | ⟨c, e1, e'⟩
  · rw [e'] at e; cases e
  · rw [e'] at e; cases e
    exact clAll_at (glOk_mem h _ e1).2 (rowG_get c hj)
theorem rowG_one (v : AV) : (rowG [v]).get 0 = v := by
  have := rowG_get [v] (j := 0) (by simp)
  simpa using this.symm
theorem lt_of_cell {w : World} {a : Addr} {v : Value} (h : w.cell? a = some v) : a.block < w.heap.size := by
  rcases Nat.lt_or_ge a.block w.heap.size with q | q
  · exact q
  · unfold World.cell? at h
    rw [Array.getElem?_eq_none q] at h
    simp at h
/-- a variable of one cell -/
theorem glob_cell {w : World} {g : Nat} {x : Value} {v : AV} (h : w.cell? ⟨g, 0, none⟩ = some x) (hv : VR (fun _ => none) v x) :
    g < w.heap.size ∧ ∀ j, j < [v].length → ∃ y, w.cell? ⟨g, j, none⟩ = some y ∧ VR (fun _ => none) ((rowG [v]).get j) y := by
  refine ⟨lt_of_cell h, fun j hj => ?_⟩
  have : j = 0 := by
    have : j < 1 := hj
    omega
  subst this
  exact ⟨x, h, by rw [rowG_one]; exact hv⟩
/-- what is asked of a world, variable for variable -/
theorem glob_intro {P : Program} {G : Nat} {l : List (Nat × List AV)} {kn : T (Option (List (List AV × AV)))} {w : World}
    (h : ∀ p ∈ l, p.1 < w.heap.size ∧ ∀ j, j < p.2.length → ∃ v, w.cell? ⟨p.1, j, none⟩ = some v ∧ VR (fun _ => none) ((rowG p.2).get j) v) : GlobW (ctxG P (glHeap G l) kn) w := fun i r e => by
  rcases glHeap_get G l i with e' | ⟨c, e1, e'⟩
  · have e2 : (glHeap G l).get i = .gl r := e
    rw [e'] at e2; cases e2
  · have e2 : (glHeap G l).get i = .gl r := e
    rw [e'] at e2; cases e2
    exact h _ e1
/-- a variable's number that is not known: it is small, or it is not -/
theorem glob_two {P : Program} {G g n : Nat} {l : List (Nat × List AV)} {kn : T (Option (List (List AV × AV)))} {w : World} (h : GlobW (ctxG P (glHeap G ((g, [.anyi]) :: l)) kn) w) :
    GlobW (ctxG P (glHeap G ((g, [.big (n + 1)]) :: l)) kn) w ∨ GlobW (ctxG P (glHeap G ((g, [.low n]) :: l)) kn) w := by
  have at_ : ∀ (v : AV) i, (glHeap G ((g, [v]) :: l)).get i = if i = g then .gl (rowG [v]) else (glHeap G l).get i := fun v i => by
    rw [show glHeap G ((g, [v]) :: l) = (glHeap G l).put g (.gl (rowG [v])) from rfl, Heap.get_put]
  obtain ⟨hs, hc⟩ := h g (rowG [.anyi]) (by show (glHeap G ((g, [.anyi]) :: l)).get g = _; rw [at_, if_pos rfl])
  obtain ⟨v, v1, v2⟩ := hc 0 (by decide)
  have hget : ∀ v : AV, (rowG [v]).get 0 = v := fun v => by
    have := rowG_get [v] (j := 0) (by simp)
    simpa using this.symm
  rw [hget] at v2
  simp only [VR] at v2
  obtain ⟨m, rfl⟩ := v2
  have mk : ∀ u : AV, VR (fun _ => none) u (.int .i64 m) → GlobW (ctxG P (glHeap G ((g, [u]) :: l)) kn) w := fun u hu i r e => by
    have e' : (glHeap G ((g, [u]) :: l)).get i = .gl r := e
    rw [at_] at e'
    by_cases hi : i = g
    · rw [if_pos hi] at e'
      cases e'
      subst hi
      refine ⟨hs, fun j hj => ?_⟩
      have : j = 0 := by
        have : j < 1 := hj
        omega
      subst this
      exact ⟨_, v1, by rw [hget]; exact hu⟩
    · rw [if_neg hi] at e'
      exact h i r (by show (glHeap G ((g, [.anyi]) :: l)).get i = _; rw [at_, if_neg hi]; exact e')
  by_cases hmn : m ≤ (n : Int)
  · exact .inr (mk _ (by simp only [VR]; exact ⟨m, hmn, rfl⟩))
  · exact .inl (mk _ (by simp only [VR]; exact ⟨m, by push_cast; omega, rfl⟩))
theorem KnownOk.two {P : Program} {G g n : Nat} {l : List (Nat × List AV)} {kn : T (Option (List (List AV × AV)))} {f : FuncId} {args : List AV} {v : AV}
    (a : KnownOk (ctxG P (glHeap G ((g, [.big (n + 1)]) :: l)) kn) f args v) (b : KnownOk (ctxG P (glHeap G ((g, [.low n]) :: l)) kn) f args v) : KnownOk (ctxG P (glHeap G ((g, [.anyi]) :: l)) kn) f args v := fun w A hw hA => by
  rcases glob_two (n := n) hw with h | h
  · exact a w A h hA
  · exact b w A h hA

/-- a call that is known to answer true -/
theorem known_calls {c : Ctx} (k : CtxOk c) {f : FuncId} {fn : Func} (hf : c.P.funcs[f]? = some fn) (hb : fn.body.isSome = true) (hk : KnownOk c f [] (.bool true)) {w : World} (hw : GlobW c w) :
    Calls c.P f #[] w fun e w' => e = .returned (.bool true) ∧ Left0 w w' := by
  obtain ⟨nx, w1, q1, q2⟩ := hk w [] hw (by simp [VRs])
  obtain ⟨bd, hbd⟩ := Option.isSome_iff_exists.1 hb
  have hnm : fn.name ≠ "runtime.NumGoroutine" := by simpa using k.names f fn hf
  have hcall : (callFunc f #[]).run c.P w = .ok (.enter f #[]) w := by simp [callFunc, hf, hnm, hbd, Sem.run]
  have q1' : (callFunc f #[]).run c.P w = .ok nx w1 := q1
  rw [hcall] at q1'
  cases q1'
  have q3 : CallsIn Fence.wide 0 c.P f #[] w (EndR fun z w' => ExtW w w' ∧ VR (fun _ => none) (.bool true) z) := q2
  refine (callsIn_wide.1 q3).mono fun e w' r => ?_
  cases e with
  | returned v =>
    obtain ⟨g, hv⟩ := r
    simp only [VR] at hv
    subst hv
    exact ⟨rfl, g.1.os, g.1.output, g.1.size, fun b hb => g.2 b hb⟩
  | panicked ch => exact r.elim
  | outgrown => exact r.elim

theorem kn_none {c : Ctx} (h1 : c.kn = .leaf) (h2 : ∀ i r, c.g0.get i = .gl r → ∀ j, j < r.n → clo (r.get j) = true) : KnOk c := by
  have hno : ∀ f l, c.kn.get none f = some l → False := fun f l e => by
    rw [h1, get_leaf] at e; cases e
  exact ⟨h2, fun f l args v e => (hno f l e).elim, fun f l args v e => (hno f l e).elim⟩

theorem closed_calls {P : Program} (hn : namesOk P = true) (hm : P.follows .mixedOrders = true) {ext : Ext} (hx : ExtOk (ctxOf P) ext) {f : FuncId} {fn : Func} (hf : P.funcs[f]? = some fn) (hb : fn.body.isSome = true) {lim n : Nat}
    (hrun : (app (ctxOf P) drawA lim ext n (.f f) [] h0).isTrue = true) (w : World) : Calls P f #[] w fun e w' => e = .returned (.bool true) ∧ Left0 w w' := by
  obtain ⟨h', hr⟩ := isTrue_spec hrun
  have hnog : ∀ i r, h0.get i = .gl r → False := fun i r e => by
    have : h0.get i = .none := get_tab4 _ i
    rw [this] at e; cases e
  have kn : KnOk (ctxOf P) := kn_none rfl (fun i r e => (hnog i r e).elim)
  exact known_calls (c := ctxOf P) (ctxOf_ok hn) hf hb (base_run (ctxOf_ok hn) kn hm hx h0_base (lim := lim) (n := n) (v := .bool true) (by unfold ansIs; rw [show app (ctxOf P) drawA lim ext n (.f f) [] (ctxOf P).g0 = .ok (.bool true) h' from hr]; rfl)) (fun i r e => (hnog i r e).elim)

end Go.Ax
