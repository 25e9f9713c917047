/-
  AxZa: whatever order is drawn: what holds on the way.
-/
import Derived.Test.YtaopfnhkfedemaaGreatDoorAxZ
set_option linter.unusedVariables false
set_option linter.unusedSimpArgs false
namespace Go.Ax

def isIn (l : Array Bool) (i : Nat) : Prop := l.getD i false = true

theorem in_set {l : Array Bool} {i j : Nat} (hi : i < l.size) : isIn (l.setIfInBounds i true) j ↔ j = i ∨ isIn l j := by
  unfold isIn
  simp only [Array.getD_eq_getD_getElem?, Array.getElem?_setIfInBounds]
  by_cases h : i = j
  · subst h; simp [hi]
  · rw [if_neg h]; simp [Ne.symm h]

section
variable {c : Ctx} {app : App} {sz : Nat} {ops : Array Oper} {ms : List Nat} {wr : T (Option Nat)} {L : List PStep}
variable (st : Static c ops ms wr L) (tr : Trace c app sz ops L) (ρ0 : Map) (w0 : World) (a0 : Act)

include st in
theorem Static.lt {m : Nat} {s : PStep} (h : L[m]? = some s) : s.i < ops.size := (Array.getElem?_eq_some_iff.1 (st.at_ m s h).1).1
include st in
theorem Static.fresh {m : Nat} {s : PStep} (h : L[m]? = some s) : bitB (doneM L m) s.i = false := by
  have := st.ok m s h
  unfold stepOk at this
  cases hb : bitB (doneM L m) s.i with
  | false => rfl
  | true => rw [hb] at this; cases this
include st in
theorem Static.uniq {m m' : Nat} {s s' : PStep} (h : L[m]? = some s) (h' : L[m']? = some s') (e : s.i = s'.i) : m = m' := by
  rcases Nat.lt_trichotomy m m' with k | k | k
  · have := st.fresh h'
    rw [← e, (doneM_spec L m' s.i).2 ⟨m, s, k, h, rfl⟩] at this; cases this
  · exact k
  · have := st.fresh h
    rw [e, (doneM_spec L m s'.i).2 ⟨m', s', k, h', rfl⟩] at this; cases this
include st in
theorem Static.parts {m : Nat} {s : PStep} (h : L[m]? = some s) : inB s.pm (doneM L m) = true ∧ (isWork s.cl = true → inB (doneM L m) s.pm = true) ∧
    (∀ d, s.o.dst = some d → wr.get none d = some s.i) ∧ looksOk ms wr s (doneM L m) (tmpsOf s.o.op.operands.toList) = true ∧ looksOk ms wr s (doneM L m) (guardSlot ops.toList s.o) = true := by
  have := st.ok m s h
  unfold stepOk at this
  split at this
  · cases this
  · split at this
    · cases this
    · rename_i h1
      split at this
      · cases this
      · rename_i h2
        split at this
        · cases this
        · rename_i h3
          split at this
          · cases this
          · rename_i h4
            refine ⟨h1, fun hw => by rw [hw] at h2; exact h2, fun d hd => ?_, h4, this⟩
            rw [hd] at h3
            simp only [] at h3
            split at h3
            · rename_i j hj; rw [hj, beqT h3]
            · cases h3
include st in
theorem Static.writer {m m' : Nat} {s s' : PStep} (h : L[m]? = some s) (h' : L[m']? = some s') {t : Tmp} (e : s.o.dst = some t) (e' : s'.o.dst = some t) : m = m' := by
  have h1 := (st.parts h).2.2.1 t e
  have h2 := (st.parts h').2.2.1 t e'
  rw [h1] at h2
  exact st.uniq h h' (Option.some.inj h2)

theorem looksOk_mem {s : PStep} {done : Nat} : ∀ {l : List Tmp}, looksOk ms wr s done l = true → ∀ t ∈ l, lookOk ms wr s done t = true
  | [], h, t, ht => by cases ht
  | x :: l, h, t, ht => by
    have h' : (match lookOk ms wr s done x with | true => looksOk ms wr s done l | false => false) = true := h
    split at h'
    · rename_i h0
      rcases List.mem_cons.1 ht with rfl | ht
      · exact h0
      · exact looksOk_mem h' t ht
    · cases h'

/-- the value of a step -/
theorem Trace.res {m : Nat} {s : PStep} (h : L[m]? = some s) : ∃ v, StepRes c app ops s (tr.E m) (tr.H m) (tr.B m) v (tr.H (m + 1)) (tr.B (m + 1)) ∧ (s.o.dst = none → tr.E (m + 1) = tr.E m) ∧ (∀ t, s.o.dst = some t → t < sz ∧ tr.E (m + 1) = (tr.E m).set und t v) :=
  runP_res (tr.step m s h)

/-- the slots that a step leaves alone -/
theorem Trace.keep {m m' : Nat} (hle : m ≤ m') (hl : m' ≤ L.length) (t : Tmp) (hn : ∀ k s, m ≤ k → k < m' → L[k]? = some s → s.o.dst ≠ some t) : (tr.E m').get und t = (tr.E m).get und t := by
  induction m' with
  | zero => have : m = 0 := by omega
            subst this; rfl
  | succ k ih =>
    by_cases hk : m = k + 1
    · subst hk; rfl
    · have hks : L[k]? = some L[k] := List.getElem?_eq_getElem (by omega)
      obtain ⟨v, _, h1, h2⟩ := tr.res hks
      have := ih (by omega) (by omega) (fun j s a b => hn j s a (by omega))
      rw [← this]
      cases hd : L[k].o.dst with
      | none => rw [h1 hd]
      | some d =>
        obtain ⟨_, h3⟩ := h2 d hd
        rw [h3, get_set_ne]
        intro e
        subst e
        exact hn k L[k] (by omega) (by omega) hks hd

theorem StepRes.nxt {s : PStep} {E : T AV} {H H' : Heap} {B B' : List (Heap × Nat)} {v : AV} (r : StepRes c app ops s E H B v H' B') (hc : s.cl = cls c s.o.op) : H.nxt ≤ H'.nxt := by
  cases r with
  | un h1 h2 h3 h4 => subst h3; exact Nat.le_refl _
  | pure h1 h2 h5 h3 h4 => subst h3; exact Nat.le_refl _
  | light h1 h2 h5 h3 h4 => subst h3; exact Nat.le_refl _
  | alloc h1 h2 h5 h4 =>
    obtain ⟨b, hb, _⟩ := alloc_spec (by rw [← hc]; exact h2) h5
    subst hb; exact Nat.le_succ _
  | work h1 h2 h5 h3 h4 => exact h3

include st in
theorem Trace.mono {m m' : Nat} (hle : m ≤ m') (hl : m' ≤ L.length) : (tr.H m).nxt ≤ (tr.H m').nxt := by
  induction m' with
  | zero => have : m = 0 := by omega
            subst this; exact Nat.le_refl _
  | succ k ih =>
    by_cases hk : m = k + 1
    · subst hk; exact Nat.le_refl _
    · have hks : L[k]? = some L[k] := List.getElem?_eq_getElem (by omega)
      obtain ⟨v, r, _⟩ := tr.res hks
      exact Nat.le_trans (ih (by omega) (by omega)) (r.nxt (st.at_ k _ hks).2.2)

/-- the heaps behind the works -/
theorem Trace.bases {m m' : Nat} (hle : m ≤ m') (hl : m' ≤ L.length) : ∃ pre, tr.B m' = pre ++ tr.B m ∧ ∀ x ∈ pre, ∃ k s, m ≤ k ∧ k < m' ∧ L[k]? = some s ∧ tr.B (k + 1) ≠ tr.B k ∧ s.i = x.2 := by
  induction m' with
  | zero => have : m = 0 := by omega
            subst this; exact ⟨[], rfl, fun x hx => by cases hx⟩
  | succ k ih =>
    by_cases hk : m = k + 1
    · subst hk; exact ⟨[], rfl, fun x hx => by cases hx⟩
    · have hks : L[k]? = some L[k] := List.getElem?_eq_getElem (by omega)
      obtain ⟨v, r, _⟩ := tr.res hks
      obtain ⟨pre, h1, h2⟩ := ih (by omega) (by omega)
      have same : tr.B (k + 1) = tr.B k → ∃ pre, tr.B (k + 1) = pre ++ tr.B m ∧ ∀ x ∈ pre, ∃ j s, m ≤ j ∧ j < k + 1 ∧ L[j]? = some s ∧ tr.B (j + 1) ≠ tr.B j ∧ s.i = x.2 := fun e =>
        ⟨pre, by rw [e]; exact h1, fun x hx => let ⟨j, s, a, b, d⟩ := h2 x hx; ⟨j, s, a, by omega, d⟩⟩
      cases r with
      | un h1 h2 h3 h4 => exact same h4
      | pure h1 h2 h5 h3 h4 => exact same h4
      | light h1 h2 h5 h3 h4 => exact same h4
      | alloc h1 h2 h5 h4 => exact same h4
      | work g1 g2 g5 g3 g4 =>
        refine ⟨(tr.H (k + 1), L[k].i) :: pre, by rw [g4, h1]; rfl, fun x hx => ?_⟩
        rcases List.mem_cons.1 hx with rfl | hx
        · exact ⟨k, L[k], by omega, by omega, hks, fun e => by rw [g4] at e; have := congrArg List.length e; simp at this, rfl⟩
        · obtain ⟨j, s, a, b, d⟩ := h2 x hx; exact ⟨j, s, a, by omega, d⟩

structure Inv (listed : Array Bool) (m : Nat) (σ : Map) (a : Act) (w : World) : Prop where
  size : listed.size = ops.size
  le : m ≤ L.length
  pre : ∀ (k : Nat) (s : PStep), k < m → L[k]? = some s → isIn listed s.i
  nowork : ∀ (k : Nat) (s : PStep), m ≤ k → L[k]? = some s → isIn listed s.i → tr.B (k + 1) = tr.B k
  closed : ∀ (i pm j : Nat), isIn listed i → nth ms i = some pm → bitB pm j = true → isIn listed j
  good : Good ρ0 (tr.H 0) w0 (cut σ (tr.H m).nxt) (tr.H m) w
  base : ∃ g j rest, tr.B m = (g, j) :: rest ∧ HLe g (tr.H m)
  dom : ∀ i p, σ i = some p → i < (tr.H m).nxt ∨ ∃ (k : Nat) (s : PStep), m ≤ k ∧ L[k]? = some s ∧ isIn listed s.i ∧ i = (tr.H k).nxt ∧ (tr.H (k + 1)).nxt = i + 1
  early : ∀ (k : Nat) (s : PStep), m ≤ k → L[k]? = some s → isIn listed s.i → tr.H (k + 1) = tr.H k ∨
    ∃ b B M, tr.H (k + 1) = (tr.H k).new b ∧ AlOk b ∧ σ (tr.H k).nxt = some (B, M) ∧ B < w.heap.size ∧ w0.heap.size ≤ B ∧ (∀ j M', j ≠ (tr.H k).nxt → σ j ≠ some (B, M')) ∧ ABR (cut σ (tr.H (k + 1)).nxt) b B M w
  tsz : a.tmps.size = sz
  slot0 : ∀ t : Tmp, (∀ (k : Nat) (s : PStep), L[k]? = some s → isIn listed s.i → s.o.dst ≠ some t) → VR ρ0 ((tr.E 0).get und t) (a.tmps.getD t undef)
  slot1 : ∀ (k : Nat) (s : PStep) (t : Tmp), L[k]? = some s → isIn listed s.i → s.o.dst = some t → VR (cut σ (tr.H (k + 1)).nxt) ((tr.E (k + 1)).get und t) (a.tmps.getD t undef)
  defers : a.defers = a0.defers

variable {st tr ρ0 w0 a0} {listed : Array Bool} {m : Nat} {σ : Map} {a : Act} {w : World}

/-- ONE THAT IS LISTED IS TAKEN IN. -/
theorem Inv.absorb (st : Static c ops ms wr L) (inv : Inv (ms := ms) tr ρ0 w0 a0 listed m σ a w) {s : PStep} (hs : L[m]? = some s) (hl : isIn listed s.i) : Inv (ms := ms) tr ρ0 w0 a0 listed (m + 1) σ a w := by
  have hlt : m < L.length := (List.getElem?_eq_some_iff.1 hs).1
  obtain ⟨v, r, _⟩ := tr.res hs
  have hB := inv.nowork m s (Nat.le_refl _) hs hl
  have hn : (tr.H m).nxt ≤ (tr.H (m + 1)).nxt := tr.mono st (Nat.le_succ _) hlt
  have key : Good ρ0 (tr.H 0) w0 (cut σ (tr.H (m + 1)).nxt) (tr.H (m + 1)) w ∧ HLe (tr.H m) (tr.H (m + 1)) := by
    rcases inv.early m s (Nat.le_refl _) hs hl with e | ⟨b, B, M, e, h1, h2, h3, h4, h5, h6⟩
    · rw [e]; exact ⟨inv.good, HLe.refl _⟩
    · have hnn : (tr.H (m + 1)).nxt = (tr.H m).nxt + 1 := by rw [e]; rfl
      have hcut : cut σ (tr.H (m + 1)).nxt = upd (cut σ (tr.H m).nxt) (tr.H m).nxt (B, M) := by
        funext i
        rw [hnn]
        unfold upd cut
        by_cases hi : i = (tr.H m).nxt
        · subst hi; simp [h2]
        · by_cases hi2 : i < (tr.H m).nxt
          · rw [if_pos (by omega), if_neg hi, if_pos hi2]
          · rw [if_neg (by omega), if_neg hi, if_neg hi2]
      rw [hcut]
      rw [hcut] at h6
      refine ⟨?_, by rw [e]; exact HLe.new inv.good.wf b⟩
      rw [e]
      refine inv.good.adopt (cut_ge (Nat.le_refl _)) b h1.row h3 h4 (fun j M' q => ?_) h6 h1.gl
      have hj : j < (tr.H m).nxt := by
        by_cases hj : j < (tr.H m).nxt
        · exact hj
        · rw [cut_ge (by omega)] at q; cases q
      exact h5 j M' (by omega) (cut_sub _ _ _ _ q)
  obtain ⟨g, j, rest, b1, b2⟩ := inv.base
  refine { inv with le := hlt, pre := ?_, nowork := fun k x hk => inv.nowork k x (by omega), good := key.1, base := ⟨g, j, rest, by rw [hB]; exact b1, b2.trans key.2⟩, dom := ?_, early := fun k x hk => inv.early k x (by omega) }
  · intro k x hk hx
    by_cases h : k = m
    · subst h; rw [hs] at hx; cases hx; exact hl
    · exact inv.pre k x (by omega) hx
  · intro i p hi
    rcases inv.dom i p hi with q | ⟨k, x, q1, q2, q3, q4, q5⟩
    · exact .inl (by omega)
    · by_cases h : k = m
      · subst h; exact .inl (by omega)
      · exact .inr ⟨k, x, by omega, q2, q3, q4, q5⟩

theorem Inv.norm (st : Static c ops ms wr L) : ∀ (n m : Nat), L.length - m = n → Inv (ms := ms) tr ρ0 w0 a0 listed m σ a w → ∃ m', Inv (ms := ms) tr ρ0 w0 a0 listed m' σ a w ∧ ∀ s, L[m']? = some s → ¬ isIn listed s.i := by
  intro n
  induction n with
  | zero =>
    intro m hn inv
    refine ⟨m, inv, fun s hs => ?_⟩
    have := (List.getElem?_eq_some_iff.1 hs).1
    omega
  | succ n ih =>
    intro m hn inv
    have hs : L[m]? = some L[m] := List.getElem?_eq_getElem (by omega)
    by_cases h : isIn listed L[m].i
    · exact ih (m + 1) (by omega) (inv.absorb st hs h)
    · exact ⟨m, inv, fun s q => by rw [hs] at q; cases q; exact h⟩

/-- A SLOT THAT IS LOOKED AT bears what it bears in the plan. -/
theorem Inv.look (st : Static c ops ms wr L) (inv : Inv (ms := ms) tr ρ0 w0 a0 listed m σ a w) {k : Nat} {s : PStep} (hk : m ≤ k) (hs : L[k]? = some s) (hl : ¬ isIn listed s.i) (hpm : ∀ j, bitB s.pm j = true → isIn listed j)
    {t : Tmp} (ht : t ∈ tmpsOf s.o.op.operands.toList ∨ t ∈ guardSlot ops.toList s.o) : VR (cut σ (tr.H k).nxt) ((tr.E k).get und t) (a.tmps.getD t undef) := by
  obtain ⟨p1, p2, p3, p4, p5⟩ := st.parts hs
  have hlk : lookOk ms wr s (doneM L k) t = true := by
    rcases ht with ht | ht
    · exact looksOk_mem p4 t ht
    · exact looksOk_mem p5 t ht
  have hkl : k < L.length := (List.getElem?_eq_some_iff.1 hs).1
  have hρ0 : Sub ρ0 (cut σ (tr.H k).nxt) := inv.good.sub.trans (cut_mono _ (tr.mono st hk (by omega)))
  have unwritten : (∀ (j : Nat) (x : PStep), L[j]? = some x → isIn listed x.i → x.o.dst ≠ some t) → (∀ (j : Nat) (x : PStep), j < k → L[j]? = some x → x.o.dst ≠ some t) → VR (cut σ (tr.H k).nxt) ((tr.E k).get und t) (a.tmps.getD t undef) := fun h1 h2 => by
    rw [tr.keep (Nat.zero_le k) (by omega) t (fun j x _ hj hx => h2 j x hj hx)]
    exact (inv.slot0 t h1).mono hρ0
  by_cases hw : ∃ (j : Nat) (x : PStep), L[j]? = some x ∧ x.o.dst = some t
  · obtain ⟨j, x, hx, hd⟩ := hw
    have hwr := (st.parts hx).2.2.1 t hd
    unfold lookOk at hlk
    rw [hwr] at hlk
    simp only [] at hlk
    split at hlk
    · rename_i he
      have hij := beqT he
      have hjk := st.uniq hx hs hij
      subst hjk
      rw [hs] at hx; cases hx
      refine unwritten (fun j2 y hy hly hdy => ?_) (fun j2 y hj2 hy hdy => ?_)
      · have := st.writer hy hs hdy hd
        subst this; rw [hs] at hy; cases hy; exact hl hly
      · have := st.writer hy hs hdy hd
        omega
    · split at hlk
      · rename_i hb
        obtain ⟨j2, y, h1, h2, h3⟩ := (doneM_spec L k x.i).1 hb
        have hjj := st.uniq h2 hx h3
        subst hjj
        rw [hx] at h2; cases h2
        have h5 := inv.slot1 j2 x t hx (hpm _ hlk) hd
        rw [tr.keep (m := j2 + 1) (by omega) (by omega) t (fun j3 y h6 h7 h8 h9 => by have := st.writer h8 hx h9 hd; omega)]
        exact h5.mono (cut_mono _ (tr.mono st (by omega) (by omega)))
      · rename_i hb
        have hnl : ¬ isIn listed x.i := fun hlx => by
          have hpx := (st.at_ j x hx).2.1
          rw [hpx] at hlk
          exact hl (inv.closed x.i x.pm s.i hlx hpx hlk)
        refine unwritten (fun j2 y hy hly hdy => ?_) (fun j2 y hj2 hy hdy => ?_)
        · have := st.writer hy hx hdy hd
          subst this; rw [hx] at hy; cases hy; exact hnl hly
        · have := st.writer hy hx hdy hd
          subst this; rw [hx] at hy; cases hy
          rw [(doneM_spec L k x.i).2 ⟨j2, x, hj2, hx, rfl⟩] at hb; cases hb
  · exact unwritten (fun j x hx _ hd => hw ⟨j, x, hx, hd⟩) (fun j x _ hx hd => hw ⟨j, x, hx, hd⟩)

end

/-- slots of which some are known -/
theorem env_exists {τ : Map} {E : T AV} {tm : Array Value} {sz : Nat} (hsz : tm.size = sz) : ∀ (l : List Tmp), (∀ t ∈ l, VR τ (E.get und t) (tm.getD t undef)) → ∃ e' : T AV, (∀ t ∈ l, e'.get und t = E.get und t) ∧ ER τ e' tm sz
  | [], _ => by
    refine ⟨T.put und (List.replicate sz .bad) .leaf 0, (fun t ht => by cases ht), hsz, fun t => ?_⟩
    rw [get_put]
    simp only [Nat.zero_le, if_true, Nat.sub_zero, get_leaf, List.getElem?_replicate]
    by_cases h : t < sz
    · rw [if_pos h]; simp [VR]
    · rw [if_neg h]
      have : tm.getD t undef = undef := by simp [Array.getD_eq_getD_getElem?, Array.getElem?_eq_none (show tm.size ≤ t by omega)]
      rw [this]; exact und_ok τ
  | t0 :: l, h => by
    obtain ⟨e, h1, h2⟩ := env_exists hsz l (fun t ht => h t (List.mem_cons_of_mem _ ht))
    refine ⟨e.set und t0 (E.get und t0), fun t ht => ?_, h2.1, fun t => ?_⟩
    · rw [get_set]
      by_cases k : t = t0
      · rw [if_pos k, k]
      · rw [if_neg k]
        rcases List.mem_cons.1 ht with q | q
        · exact absurd q k
        · exact h1 t q
    · rw [get_set]
      by_cases k : t = t0
      · rw [if_pos k, k]; exact h t0 List.mem_cons_self
      · rw [if_neg k]; exact h2.2 t

theorem mem_tmpsOf {t : Tmp} : ∀ {l : List Operand}, Operand.tmp t ∈ l → t ∈ tmpsOf l
  | .tmp u :: l, h => by
    show t ∈ u :: tmpsOf l
    rcases List.mem_cons.1 h with k | h
    · cases k; exact List.mem_cons_self
    · exact List.mem_cons_of_mem _ (mem_tmpsOf h)
  | .const v :: l, h => by
    rcases List.mem_cons.1 h with k | h
    · cases k
    · exact mem_tmpsOf (l := l) h
  | .global v :: l, h => by
    rcases List.mem_cons.1 h with k | h
    · cases k
    · exact mem_tmpsOf (l := l) h
  | .func v :: l, h => by
    rcases List.mem_cons.1 h with k | h
    · cases k
    · exact mem_tmpsOf (l := l) h

theorem ev_agree {e e' : T AV} {l : List Operand} (h : ∀ t ∈ tmpsOf l, e'.get und t = e.get und t) : ∀ x ∈ l, ev e x = ev e' x := fun x hx => by
  cases x with
  | tmp t => exact (h t (mem_tmpsOf hx)).symm
  | const v => rfl
  | global g => rfl
  | func f => rfl
theorem want_agree {e e' : T AV} {ops : List Oper} {o : Oper} (h : ∀ t ∈ guardSlot ops o, e'.get und t = e.get und t) : wantA ops e o = wantA ops e' o := by
  unfold wantA
  unfold guardSlot at h
  cases hg : o.guard with
  | none => rfl
  | some jw =>
    obtain ⟨j, b⟩ := jw
    rw [hg] at h
    simp only [] at h ⊢
    cases hj : nth ops j with
    | none => rfl
    | some p =>
      rw [hj] at h
      simp only [] at h ⊢
      cases hd : p.dst with
      | none => rfl
      | some d =>
        rw [hd] at h
        simp only [] at h ⊢
        rw [h d List.mem_cons_self]
theorem opR_congr {c : Ctx} {app : App} {e e' : T AV} {h : Heap} {o : Op} (H : ∀ x ∈ o.operands.toList, ev e x = ev e' x) : opR c app e h o = opR c app e' h o := by
  unfold opR; rw [opA_congr o H]
end Go.Ax
