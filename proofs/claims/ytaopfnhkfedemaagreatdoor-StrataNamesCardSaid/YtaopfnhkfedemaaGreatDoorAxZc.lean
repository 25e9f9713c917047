/-
  AxZc: whatever order is drawn: the whole region.
-/
import Derived.Test.YtaopfnhkfedemaaGreatDoorAxZb
set_option linter.unusedVariables false
set_option linter.unusedSimpArgs false
namespace Go.Ax

theorem put_get {a : Act} {d : Option Tmp} {z : Value} {t : Tmp} (h : d ≠ some t) : (a.put d z).tmps.getD t undef = a.tmps.getD t undef := by
  cases d with
  | none => rfl
  | some d =>
    have : d ≠ t := fun e => h (by rw [e])
    simp [Act.put, Array.getD_eq_getD_getElem?, Array.getElem?_setIfInBounds, this]
theorem put_same {a : Act} {z : Value} {t : Tmp} (h : t < a.tmps.size) : (a.put (some t) z).tmps.getD t undef = z := by
  simp [Act.put, Array.getD_eq_getD_getElem?, Array.getElem?_setIfInBounds, h]
theorem put_size {a : Act} {d : Option Tmp} {z : Value} : (a.put d z).tmps.size = a.tmps.size := by cases d <;> simp [Act.put]
theorem put_defers {a : Act} {d : Option Tmp} {z : Value} : (a.put d z).defers = a.defers := by cases d <;> rfl

section
variable {c : Ctx} {app : App} {sz : Nat} {ops : Array Oper} {ms : List Nat} {wr : T (Option Nat)} {L : List PStep}
variable (st : Static c ops ms wr L) {tr : Trace c app sz ops L} {ρ0 : Map} {w0 : World} {a0 : Act} {listed : Array Bool} {m : Nat} {σ : Map} {a : Act} {w : World}
include st

theorem Inv.slots (inv : Inv (ms := ms) tr ρ0 w0 a0 listed m σ a w) {k : Nat} {s : PStep} (hs : L[k]? = some s) (hl : ¬ isIn listed s.i) {σ' : Map} (hsub : Sub σ σ') {v : AV} {z : Value}
    (hv : VR (cut σ' (tr.H (k + 1)).nxt) v z) (hE : s.o.dst = none → tr.E (k + 1) = tr.E k) (hE2 : ∀ t, s.o.dst = some t → t < sz ∧ tr.E (k + 1) = (tr.E k).set und t v) :
    (∀ t : Tmp, (∀ (j : Nat) (x : PStep), L[j]? = some x → isIn (listed.setIfInBounds s.i true) x.i → x.o.dst ≠ some t) → VR ρ0 ((tr.E 0).get und t) ((a.put s.o.dst z).tmps.getD t undef)) ∧
    (∀ (j : Nat) (x : PStep) (t : Tmp), L[j]? = some x → isIn (listed.setIfInBounds s.i true) x.i → x.o.dst = some t → VR (cut σ' (tr.H (j + 1)).nxt) ((tr.E (j + 1)).get und t) ((a.put s.o.dst z).tmps.getD t undef)) := by
  have hi : s.i < listed.size := by rw [inv.size]; exact st.lt hs
  constructor
  · intro t ht
    rw [put_get (ht k s hs ((in_set hi).2 (.inl rfl)))]
    exact inv.slot0 t fun j x hx hlx => ht j x hx ((in_set hi).2 (.inr hlx))
  · intro j x t hx hlx hd
    by_cases hjk : j = k
    · subst hjk
      rw [hs] at hx; cases hx
      obtain ⟨h1, h2⟩ := hE2 t hd
      rw [hd, put_same (by rw [inv.tsz]; exact h1), h2, get_set_same]
      exact hv
    · have hlx' : isIn listed x.i := by
        rcases (in_set hi).1 hlx with q | q
        · exact absurd (st.uniq hx hs q) hjk
        · exact q
      rw [put_get (fun q => hjk (st.writer hx hs hd q))]
      exact (inv.slot1 j x t hx hlx' hd).mono (cut_sub2 hsub _)

theorem Inv.put (inv : Inv (ms := ms) tr ρ0 w0 a0 listed m σ a w) {k : Nat} {s : PStep} (hk : m ≤ k) (hs : L[k]? = some s) (hl : ¬ isIn listed s.i) (hpm : ∀ j, bitB s.pm j = true → isIn listed j) (hnw : tr.B (k + 1) = tr.B k)
    {σ' : Map} {w' : World} {v : AV} {z : Value} (hsub : Sub σ σ') (hg : Good ρ0 (tr.H 0) w0 (cut σ' (tr.H m).nxt) (tr.H m) w') (hsize : w.heap.size ≤ w'.heap.size) (hblk : ∀ B, B < w.heap.size → w'.heap[B]? = w.heap[B]?)
    (hdom : ∀ i p, σ' i = some p → σ i = some p ∨ (i = (tr.H k).nxt ∧ (tr.H (k + 1)).nxt = i + 1))
    (hnew : ∀ i B M, σ' i = some (B, M) → σ i = none → w.heap.size ≤ B)
    (hearly : tr.H (k + 1) = tr.H k ∨
      ∃ b B M, tr.H (k + 1) = (tr.H k).new b ∧ AlOk b ∧ σ' (tr.H k).nxt = some (B, M) ∧ B < w'.heap.size ∧ w0.heap.size ≤ B ∧ (∀ j M', j ≠ (tr.H k).nxt → σ' j ≠ some (B, M')) ∧ ABR (cut σ' (tr.H (k + 1)).nxt) b B M w')
    (hv : VR (cut σ' (tr.H (k + 1)).nxt) v z) (hE : s.o.dst = none → tr.E (k + 1) = tr.E k) (hE2 : ∀ t, s.o.dst = some t → t < sz ∧ tr.E (k + 1) = (tr.E k).set und t v) :
    Inv (ms := ms) tr ρ0 w0 a0 (listed.setIfInBounds s.i true) m σ' (a.put s.o.dst z) w' := by
  have hi : s.i < listed.size := by rw [inv.size]; exact st.lt hs
  obtain ⟨s0, s1⟩ := inv.slots st hs hl hsub hv hE hE2
  refine { size := by simp [inv.size], le := inv.le, pre := ?_, nowork := ?_, closed := ?_, good := hg, base := inv.base, dom := ?_, early := ?_, tsz := put_size.trans inv.tsz, slot0 := s0, slot1 := s1, defers := put_defers.trans inv.defers }
  · intro j x hj hx; exact (in_set hi).2 (.inr (inv.pre j x hj hx))
  · intro j x hj hx hlx
    rcases (in_set hi).1 hlx with q | q
    · have := st.uniq hx hs q
      subst this; rw [hs] at hx; cases hx; exact hnw
    · exact inv.nowork j x hj hx q
  · intro i pm j hli hpmi hb
    rcases (in_set hi).1 hli with q | q
    · subst q
      rw [(st.at_ k s hs).2.1] at hpmi; cases hpmi
      exact (in_set hi).2 (.inr (hpm j hb))
    · exact (in_set hi).2 (.inr (inv.closed i pm j q hpmi hb))
  · intro i p hip
    rcases hdom i p hip with q | ⟨q1, q2⟩
    · rcases inv.dom i p q with q | ⟨j, x, h1, h2, h3, h4, h5⟩
      · exact .inl q
      · exact .inr ⟨j, x, h1, h2, (in_set hi).2 (.inr h3), h4, h5⟩
    · exact .inr ⟨k, s, hk, hs, (in_set hi).2 (.inl rfl), q1, q2⟩
  · intro j x hj hx hlx
    rcases (in_set hi).1 hlx with q | q
    · have := st.uniq hx hs q
      subst this; rw [hs] at hx; cases hx; exact hearly
    · rcases inv.early j x hj hx q with e | ⟨b, B, M, e, h1, h2, h3, h4, h5, h6⟩
      · exact .inl e
      · refine .inr ⟨b, B, M, e, h1, hsub _ _ h2, Nat.lt_of_lt_of_le h3 hsize, h4, fun i M' hne q => ?_, (h6.mono (cut_sub2 hsub _)).block (hblk B h3)⟩
        cases hc : σ i with
        | none => have := hnew i B M' q hc; omega
        | some p =>
          have h7 := hsub i p hc
          rw [q] at h7; cases h7
          exact h5 i M' hne hc

theorem Inv.work (inv : Inv (ms := ms) tr ρ0 w0 a0 listed m σ a w) {s : PStep} (hs : L[m]? = some s) (hl : ¬ isIn listed s.i) (hpm : ∀ j, bitB s.pm j = true → isIn listed j)
    {ρ' : Map} {w' : World} {v : AV} {z : Value} (g : Good (cut σ (tr.H m).nxt) (tr.H m) w ρ' (tr.H (m + 1)) w') (hv : VR ρ' v z) (hB : tr.B (m + 1) = (tr.H (m + 1), s.i) :: tr.B m)
    (hE : s.o.dst = none → tr.E (m + 1) = tr.E m) (hE2 : ∀ t, s.o.dst = some t → t < sz ∧ tr.E (m + 1) = (tr.E m).set und t v) :
    Inv (ms := ms) tr ρ0 w0 a0 (listed.setIfInBounds s.i true) (m + 1) (fun i => if i < (tr.H (m + 1)).nxt then ρ' i else σ i) (a.put s.o.dst z) w' := by
  have hlt : m < L.length := (List.getElem?_eq_some_iff.1 hs).1
  have hi : s.i < listed.size := by rw [inv.size]; exact st.lt hs
  have hup : FreeIdx ρ' (tr.H (m + 1)) := g.upI (fun i hi => cut_ge hi)
  have hn : (tr.H m).nxt ≤ (tr.H (m + 1)).nxt := g.nxt
  have hcut : cut (fun i => if i < (tr.H (m + 1)).nxt then ρ' i else σ i) (tr.H (m + 1)).nxt = ρ' := by
    funext i
    unfold cut
    by_cases h : i < (tr.H (m + 1)).nxt
    · rw [if_pos h]
      show (if i < (tr.H (m + 1)).nxt then ρ' i else σ i) = _
      rw [if_pos h]
    · rw [if_neg h, hup i (by omega)]
  have hlater : ∀ i p, σ i = some p → i < (tr.H m).nxt ∨ (tr.H (m + 1)).nxt ≤ i := fun i p hip => by
    rcases inv.dom i p hip with q | ⟨j, x, h1, h2, h3, h4, h5⟩
    · exact .inl q
    · have hjm : j ≠ m := fun e => by subst e; rw [hs] at h2; cases h2; exact hl h3
      have hjl := (List.getElem?_eq_some_iff.1 h2).1
      have := tr.mono st (m := m + 1) (m' := j) (by omega) (by omega)
      exact .inr (by omega)
  have hsub : Sub σ (fun i => if i < (tr.H (m + 1)).nxt then ρ' i else σ i) := fun i p hip => by
    show (if i < (tr.H (m + 1)).nxt then ρ' i else σ i) = some p
    rcases hlater i p hip with q | q
    · rw [if_pos (by omega)]
      exact g.sub i p (by rw [cut_lt q]; exact hip)
    · rw [if_neg (by omega)]; exact hip
  obtain ⟨s0, s1⟩ := inv.slots st hs hl hsub (v := v) (z := z) (by rw [hcut]; exact hv) hE hE2
  refine { size := by simp [inv.size], le := hlt, pre := ?_, nowork := ?_, closed := ?_, good := by rw [hcut]; exact inv.good.trans g, base := ⟨_, _, _, hB, HLe.refl _⟩, dom := ?_, early := ?_, tsz := put_size.trans inv.tsz, slot0 := s0, slot1 := s1, defers := put_defers.trans inv.defers }
  · intro j x hj hx
    by_cases hjm : j = m
    · subst hjm; rw [hs] at hx; cases hx; exact (in_set hi).2 (.inl rfl)
    · exact (in_set hi).2 (.inr (inv.pre j x (by omega) hx))
  · intro j x hj hx hlx
    rcases (in_set hi).1 hlx with q | q
    · have := st.uniq hx hs q; omega
    · exact inv.nowork j x (by omega) hx q
  · intro i pm j hli hpmi hb
    rcases (in_set hi).1 hli with q | q
    · subst q
      rw [(st.at_ m s hs).2.1] at hpmi; cases hpmi
      exact (in_set hi).2 (.inr (hpm j hb))
    · exact (in_set hi).2 (.inr (inv.closed i pm j q hpmi hb))
  · intro i p hip
    by_cases h : i < (tr.H (m + 1)).nxt
    · exact .inl h
    · have hip' : (if i < (tr.H (m + 1)).nxt then ρ' i else σ i) = some p := hip
      rw [if_neg h] at hip'
      rcases inv.dom i p hip' with q | ⟨j, x, h1, h2, h3, h4, h5⟩
      · omega
      · have hjm : j ≠ m := fun e => by subst e; rw [hs] at h2; cases h2; exact hl h3
        exact .inr ⟨j, x, by omega, h2, (in_set hi).2 (.inr h3), h4, h5⟩
  · intro j x hj hx hlx
    have hlx' : isIn listed x.i := by
      rcases (in_set hi).1 hlx with q | q
      · have := st.uniq hx hs q; omega
      · exact q
    rcases inv.early j x (by omega) hx hlx' with e | ⟨b, B, M, e, h1, h2, h3, h4, h5, h6⟩
    · exact .inl e
    · have hjl := (List.getElem?_eq_some_iff.1 hx).1
      have hnj := tr.mono st (m := m + 1) (m' := j) (by omega) (by omega)
      have hno : ∀ i M', cut σ (tr.H m).nxt i ≠ some (B, M') := fun i M' q => by
        by_cases hi2 : i < (tr.H m).nxt
        · exact h5 i M' (by omega) (cut_sub _ _ _ _ q)
        · rw [cut_ge (by omega)] at q; cases q
      refine .inr ⟨b, B, M, e, h1, hsub _ _ h2, Nat.lt_of_lt_of_le h3 g.same.size, h4, fun i M' hne q => ?_, (h6.mono (cut_sub2 hsub _)).block (g.frame B h3 (fun i N q _ => hno i N q))⟩
      have q' : (if i < (tr.H (m + 1)).nxt then ρ' i else σ i) = some (B, M') := q
      by_cases hi2 : i < (tr.H (m + 1)).nxt
      · rw [if_pos hi2] at q'
        cases hc : cut σ (tr.H m).nxt i with
        | none =>
          rcases g.newb i B M' q' hc with q2 | ⟨j2, M2, q2, _⟩
          · omega
          · exact hno j2 M2 q2
        | some p =>
          have := g.sub i p hc
          rw [q'] at this; cases this
          exact hno i M' hc
      · rw [if_neg hi2] at q'
        exact h5 i M' hne q'

omit st in
theorem Inv.lt (inv : Inv (ms := ms) tr ρ0 w0 a0 listed m σ a w) : ∀ i B N, σ i = some (B, N) → B < w.heap.size := fun i B N h => by
  rcases inv.dom i _ h with q | ⟨j, x, h1, h2, h3, h4, h5⟩
  · exact inv.good.hr.lt i B N (by rw [cut_lt q]; exact h)
  · rcases inv.early j x h1 h2 h3 with e | ⟨b, B', M, e, g1, g2, g3, _⟩
    · rw [e] at h5; omega
    · rw [← h4, h] at g2; cases g2; exact g3

omit st in
theorem Inv.hr (inv : Inv (ms := ms) tr ρ0 w0 a0 listed m σ a w) {x : Nat} (hx : (tr.H m).nxt ≤ x) : HR (cut σ x) (tr.H m) w := by
  have hno : ∀ i, ¬ i < (tr.H m).nxt → ¬ (tr.H m).ok i := fun i hi ho => by
    unfold Heap.ok at ho
    rw [inv.good.wf.fresh i (by omega)] at ho; exact ho
  have hlow : ∀ i, i < (tr.H m).nxt → cut σ x i = cut σ (tr.H m).nxt i := fun i hi => by rw [cut_lt hi, cut_lt (by omega)]
  refine ⟨fun i B N h => inv.lt i B N (cut_sub _ _ _ _ h), fun i B N h ho => ?_, fun i j B N M hij h1 h2 o1 o2 => ?_, fun i r e => ?_⟩
  · by_cases hi : i < (tr.H m).nxt
    · rw [hlow i hi] at h
      exact (inv.good.hr.ok i B N h ho).mono (cut_mono _ hx)
    · exact absurd ho (hno i hi)
  · by_cases hi : i < (tr.H m).nxt
    · by_cases hj : j < (tr.H m).nxt
      · rw [hlow i hi] at h1
        rw [hlow j hj] at h2
        exact inv.good.hr.inj i j B N M hij h1 h2 o1 o2
      · exact absurd o2 (hno j hj)
    · exact absurd o1 (hno i hi)
  · by_cases hi : i < (tr.H m).nxt
    · obtain ⟨N, hN⟩ := inv.good.hr.gl i r e
      exact ⟨N, by rw [hlow i hi]; exact hN⟩
    · exact absurd (by unfold Heap.ok; rw [e]; trivial) (hno i hi)

/-- a heap in which nothing stands -/
def bare (n : Nat) : Heap := ⟨n, .leaf, .leaf, []⟩
omit st in
theorem bare_wf (n : Nat) : WF (bare n) := by
  refine ⟨fun i _ => rfl, fun i r q e => ?_, fun i r q t e => ?_, fun q _ => rfl⟩
  · have : (bare n).get i = .none := rfl
    rw [this] at e; cases e
  · have : (bare n).get i = .none := rfl
    rw [this] at e; cases e
omit st in
theorem bare_no (n i : Nat) : ¬ (bare n).ok i := fun h => h
omit st in
theorem bare_hr {τ : Map} {w : World} (n : Nat) (h : ∀ i B N, τ i = some (B, N) → B < w.heap.size) : HR τ (bare n) w :=
  ⟨h, fun i B N _ o => absurd o (bare_no n i), fun i j B N M _ _ _ o => absurd o (bare_no n i), fun i r e => by cases e⟩

variable (k : CtxOk c) (ha : AppOk c app)
include k ha

/-- EACH THAT MAY COME UP. -/
theorem step_any {ro : Option Nat} {Q : Exit → Act → World → Prop} (hgl : ∀ i r, c.g0.get i = .gl r → (tr.H 0).get i = .gl r) (inv : Inv (ms := ms) tr ρ0 w0 a0 listed m σ a w) (norm : ∀ s, L[m]? = some s → ¬ isIn listed s.i) {j : Nat} {s : PStep} (hs : L[j]? = some s) (hl : ¬ isIn listed s.i)
    (hpm : ∀ i, bitB s.pm i = true → isIn listed i) {K : Act → World → Prop} (hK : ∀ m2 σ2 a2 w2, Inv (ms := ms) tr ρ0 w0 a0 (listed.setIfInBounds s.i true) m2 σ2 a2 w2 → K a2 w2) : wpOpIn (wideR ro) 0 c.P ops Q s.i K a w := by
  have hjm : m ≤ j := by
    by_cases h : m ≤ j
    · exact h
    · exact absurd (inv.pre j s (by omega) hs) hl
  have hjl := (List.getElem?_eq_some_iff.1 hs).1
  obtain ⟨hso, hspm, hscl⟩ := st.at_ j s hs
  have hnm : (tr.H m).nxt ≤ (tr.H j).nxt := tr.mono st hjm (by omega)
  obtain ⟨e', he', er⟩ := env_exists (τ := cut σ (tr.H j).nxt) (E := tr.E j) inv.tsz (tmpsOf s.o.op.operands.toList ++ guardSlot ops.toList s.o) (fun t ht => inv.look st hjm hs hl hpm (by simpa using ht))
  have hw' : wantA ops.toList (tr.E j) s.o = wantA ops.toList e' s.o := want_agree fun t ht => he' t (List.mem_append_right _ ht)
  have hop : ∀ h, opA c (tr.E j) h s.o.op = opA c e' h s.o.op := fun h => opA_congr _ (ev_agree fun t ht => he' t (List.mem_append_left _ ht))
  have hopR : ∀ h, opR c app (tr.E j) h s.o.op = opR c app e' h s.o.op := fun h => opR_congr (ev_agree fun t ht => he' t (List.mem_append_left _ ht))
  obtain ⟨v, r, hE, hE2⟩ := tr.res hs
  have hτlt : ∀ i B N, cut σ (tr.H j).nxt i = some (B, N) → B < w.heap.size := fun i B N h => inv.lt i B N (cut_sub _ _ _ _ h)
  have hnomid : ∀ i, (tr.H j).nxt ≤ i → (tr.H (j + 1)).nxt = (tr.H j).nxt + 1 → i < (tr.H (j + 1)).nxt → σ i = none := fun i h1 h2 h3 => by
    cases hc : σ i with
    | none => rfl
    | some p =>
      rcases inv.dom i p hc with q | ⟨j2, x, g1, g2, g3, g4, g5⟩
      · omega
      · have hjj : j2 ≠ j := fun e => by subst e; rw [hs] at g2; cases g2; exact hl g3
        have hj2l := (List.getElem?_eq_some_iff.1 g2).1
        rcases Nat.lt_or_gt_of_ne hjj with q | q
        · have := tr.mono st (m := j2 + 1) (m' := j) (by omega) (by omega); omega
        · have := tr.mono st (m := j + 1) (m' := j2) (by omega) (by omega); omega
  unfold wpOpIn
  rw [hso]
  simp only []
  cases r with
  | un h1 h2 h3 h4 =>
    rw [if_neg (by rw [wantA_ok er (hw'.symm.trans h1)]; simp)]
    subst h2
    refine ⟨fun _ _ => trivial, hK m σ _ w ?_⟩
    exact inv.put st hjm hs hl hpm h4 (Sub.refl _) inv.good (Nat.le_refl _) (fun _ _ => rfl) (fun i p h => .inl h) (fun i B M h h' => by rw [h] at h'; cases h') (.inl h3) (und_ok _) hE hE2
  | pure h1 h2 h5 h3 h4 =>
    rw [if_pos (wantA_ok er (hw'.symm.trans h1))]
    refine ⟨fun _ _ => trivial, ?_⟩
    obtain ⟨g1, h5⟩ := h5
    rw [hop] at h5
    rw [show (wideR ro).round = ro from rfl, Oper.semAt_eq ro a.eval s.o (opA_defer h5)]
    obtain ⟨_, hpure⟩ := pure_spec (by rw [← hscl]; exact h2) h5
    obtain ⟨nx, w', τ', q1, q2, q3⟩ := opA_ok k (bare_hr (tr.H j).nxt hτlt) (bare_wf _) (fun i a b => absurd b (by omega)) er (hpure (bare (tr.H j).nxt))
    have hτ : τ' = cut σ (tr.H j).nxt := by
      funext i
      cases hc : τ' i with
      | none =>
        cases hd : cut σ (tr.H j).nxt i with
        | none => rfl
        | some p => rw [q2.sub i p hd] at hc; cases hc
      | some p =>
        rcases q2.dom i p hc with e | ⟨e1, e2⟩
        · exact e.symm
        · omega
    subst hτ
    have hblk : ∀ B, B < w.heap.size → w'.heap[B]? = w.heap[B]? := fun B hB => q2.frame B hB (fun i N _ => bare_no _ i)
    have hfin : ∀ z, VR (cut σ (tr.H j).nxt) v z → K (a.put s.o.dst z) w' := fun z hz => by
      refine hK m σ _ w' (inv.put st hjm hs hl hpm h4 (Sub.refl _) (inv.good.ext q2.same hblk) q2.same.size hblk (fun i p h => .inl h) (fun i B M h h' => by rw [h] at h'; cases h') (.inl h3) (by rw [h3]; exact hz) hE hE2)
    rw [q1]
    rcases q3 with ⟨z, rfl, q3⟩ | ⟨rfl, q3⟩
    · exact hfin z q3
    · exact hfin undef q3
  | light h1 h2 h5 h3 h4 =>
    rw [if_pos (wantA_ok er (hw'.symm.trans h1))]
    refine ⟨fun _ _ => trivial, ?_⟩
    obtain ⟨g, jj, rest, b1, b2⟩ := inv.base
    obtain ⟨pre, p1, p2⟩ := tr.bases hjm (by omega)
    have hcl : cls c s.o.op = .light := by rw [← hscl]; exact h2
    obtain ⟨g', hg'⟩ := (lightV_spec h5).2 pre g jj rest (by rw [p1, b1]) (fun x hx => by
      obtain ⟨i, y, y1, y2, y3, y4, y5⟩ := p2 x hx
      cases hb : bitB s.pm x.2 with
      | false => rfl
      | true =>
        have hly := hpm _ hb
        rw [← y5] at hly
        exact absurd (inv.nowork i y y1 y3 hly) y4)
    rw [hop] at hg'
    have hH := light_mono b2 hcl hg'
    rw [show (wideR ro).round = ro from rfl, Oper.semAt_eq ro a.eval s.o (opA_defer hH)]
    obtain ⟨nx, q1, q3⟩ := light_ok k (inv.hr hnm) er hcl hH
    have hfin : ∀ z, VR (cut σ (tr.H j).nxt) v z → K (a.put s.o.dst z) w := fun z hz =>
      hK m σ _ w (inv.put st hjm hs hl hpm h4 (Sub.refl _) inv.good (Nat.le_refl _) (fun _ _ => rfl) (fun i p h => .inl h) (fun i B M h h' => by rw [h] at h'; cases h') (.inl h3) (by rw [h3]; exact hz) hE hE2)
    rw [q1]
    rcases q3 with ⟨z, rfl, q3⟩ | ⟨rfl, q3⟩
    · exact hfin z q3
    · exact hfin undef q3
  | alloc h1 h2 h5 h4 =>
    rw [if_pos (wantA_ok er (hw'.symm.trans h1))]
    refine ⟨fun _ _ => trivial, ?_⟩
    rw [hop] at h5
    rw [show (wideR ro).round = ro from rfl, Oper.semAt_eq ro a.eval s.o (opA_defer h5)]
    obtain ⟨b, hb1, hb2, hb3, hb4⟩ := alloc_spec (by rw [← hscl]; exact h2) h5
    have hnn : (tr.H (j + 1)).nxt = (tr.H j).nxt + 1 := by rw [hb1]; rfl
    have hσn : σ (tr.H j).nxt = none := hnomid _ (Nat.le_refl _) hnn (by omega)
    obtain ⟨nx, w', τ', q1, q2, q3⟩ := opA_ok k (bare_hr (tr.H j).nxt hτlt) (bare_wf _) (fun i a b => cut_ge (show (tr.H j).nxt ≤ i from a)) er (hb4 (bare (tr.H j).nxt) rfl)
    have hn2 : ((bare (tr.H j).nxt).new b).nxt = (tr.H j).nxt + 1 := rfl
    obtain ⟨⟨B, M⟩, hBM⟩ := Option.isSome_iff_exists.1 (q2.full (tr.H j).nxt (Nat.le_refl _) (by rw [hn2]; omega))
    have hσ' : cut (upd σ (tr.H j).nxt (B, M)) (tr.H (j + 1)).nxt = τ' := by
      funext i
      rw [hnn]
      by_cases hi : i = (tr.H j).nxt
      · subst hi; rw [cut_lt (by omega), upd_same, hBM]
      · by_cases hi2 : i < (tr.H j).nxt
        · rw [cut_lt (by omega), upd_ne _ _ hi]
          cases hc : σ i with
          | some p => rw [q2.sub i p (by rw [cut_lt hi2]; exact hc)]
          | none =>
            cases hd : τ' i with
            | none => rfl
            | some p =>
              rcases q2.dom i p hd with e | ⟨e1, e2⟩
              · rw [cut_lt hi2, hc] at e; cases e
              · have : (tr.H j).nxt ≤ i := e1
                omega
        · rw [cut_ge (by omega)]
          cases hd : τ' i with
          | none => rfl
          | some p =>
            rcases q2.dom i p hd with e | ⟨e1, e2⟩
            · rw [cut_ge (by omega)] at e; cases e
            · rw [hn2] at e2; omega
    have hblk : ∀ B, B < w.heap.size → w'.heap[B]? = w.heap[B]? := fun B hB => q2.frame B hB (fun i N _ => bare_no _ i)
    have hBge : w.heap.size ≤ B := by
      rcases q2.newb _ B M hBM (cut_ge (Nat.le_refl _)) with e | ⟨j2, M2, _, e⟩
      · exact e
      · exact absurd e (bare_no _ j2)
    have hget : ((bare (tr.H j).nxt).new b).get (tr.H j).nxt = b := by
      have := Heap.get_new (bare (tr.H j).nxt) (tr.H j).nxt b
      rw [this]; exact if_pos rfl
    have hABR : ABR τ' b B M w' := by
      have := q2.hr.ok (tr.H j).nxt B M hBM (by
        unfold Heap.ok
        rw [hget]
        cases hbb : b with
        | none => exact absurd hbb hb3
        | row r =>
          simp only []
          rw [Heap.row_of (show ((bare (tr.H j).nxt).new (AB.row r)).get (tr.H j).nxt = .row r by rw [← hbb]; exact hget), hb2.row r hbb]; rfl
        | _ => trivial)
      rw [hget] at this; exact this
    have hsub : Sub σ (upd σ (tr.H j).nxt (B, M)) := upd_sub hσn
    have hcutm : cut (upd σ (tr.H j).nxt (B, M)) (tr.H m).nxt = cut σ (tr.H m).nxt := by
      funext i
      by_cases hi : i < (tr.H m).nxt
      · rw [cut_lt hi, cut_lt hi, upd_ne _ _ (by omega)]
      · rw [cut_ge (by omega), cut_ge (by omega)]
    have hfin : ∀ z, VR τ' v z → K (a.put s.o.dst z) w' := fun z hz => by
      refine hK m _ _ w' (inv.put st hjm hs hl hpm h4 hsub (by rw [hcutm]; exact inv.good.ext q2.same hblk) q2.same.size hblk (fun i p h => ?_) (fun i C M' h h' => ?_)
        (.inr ⟨b, B, M, hb1, hb2, upd_same _ _ _, q2.hr.lt _ B M hBM, Nat.le_trans inv.good.same.size hBge, fun i M' hne q => ?_, by rw [hσ']; exact hABR⟩) (by rw [hσ']; exact hz) hE hE2)
      · by_cases hi : i = (tr.H j).nxt
        · exact .inr ⟨hi, by rw [hi]; exact hnn⟩
        · rw [upd_ne _ _ hi] at h; exact .inl h
      · by_cases hi : i = (tr.H j).nxt
        · subst hi; rw [upd_same] at h; cases h; exact hBge
        · rw [upd_ne _ _ hi] at h; rw [h] at h'; cases h'
      · rw [upd_ne _ _ hne] at q
        have := inv.lt i B M' q
        omega
    rw [q1]
    rcases q3 with ⟨z, rfl, q3⟩ | ⟨rfl, q3⟩
    · exact hfin z q3
    · exact hfin undef q3
  | work h1 h2 h5 h3 h4 =>
    have hjm2 : j = m := by
      by_cases h : j = m
      · exact h
      · have hsm : L[m]? = some L[m] := List.getElem?_eq_getElem (by omega)
        have := inB_spec ((st.parts hs).2.1 (by rw [h2]; rfl)) ((doneM_spec L j L[m].i).2 ⟨m, L[m], by omega, hsm, rfl⟩)
        exact absurd (hpm _ this) (norm _ hsm)
    subst hjm2
    rw [if_pos (wantA_ok er (hw'.symm.trans h1))]
    rw [hopR] at h5
    refine opR_ok k ha inv.good.hr inv.good.wf ⟨fun i hi => cut_ge hi, fun i r q => inv.good.gl i r (hgl i r q)⟩ er h5 fun z w' ρ' g hz => ?_
    exact hK _ _ _ w' (inv.work st hs hl hpm g hz h4 hE hE2)
end
end Go.Ax
