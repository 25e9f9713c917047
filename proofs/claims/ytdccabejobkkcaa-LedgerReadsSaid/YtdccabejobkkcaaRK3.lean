/- Parts of the proof in YtdccabejobkkcaaRFin: PxZc, PxZd, PxZe, PxTa, PxTb, PxTc, PxTd, PxTe, PxTf, PxTg, PxTh, PxTi, PxTj, PxTk, PxTl, PxTm, PxTn, PxTo, PxTp, PxTq, PxTr, PxTs, PxTt, PxTu, PxTv, PxTw. -/
import Derived.Test.YtdccabejobkkcaaRK2
import Derived.Lib.Bytealg
import Derived.Laws.Externs
import Derived.Deep.Slices
import Derived.ReadAgain
set_option linter.unusedVariables false
set_option linter.unusedSimpArgs false
section
namespace Go.Px
theorem put_get {a : Act} {d : Option Tmp} {z : Value} {t : Tmp} (h : d ≠ some t) : (a.put d z).tmps.getD t undef = a.tmps.getD t undef := by
 cases d with
 | none => rfl
 | some d =>
  have : d ≠ t := fun e => h (by rw [e])
  simp [Act.put, Array.getD_eq_getD_getElem?, Array.getElem?_setIfInBounds, this]
theorem put_same {a : Act} {z : Value} {t : Tmp} (h : t < a.tmps.size) : (a.put (some t) z).tmps.getD t undef = z := by
 simp [Act.put, Array.getD_eq_getD_getElem?, Array.getElem?_setIfInBounds, h]
theorem put_size {a : Act} {d : Option Tmp} {z : Value} : (a.put d z).tmps.size = a.tmps.size := by cases d <;> simp [Act.put]
theorem put_defers {a : Act} {d : Option Tmp} {z : Value} : (a.put d z).defers = a.defers := by cases d <;> rfl
section
variable {c : Ctx} {app : App} {sz : Nat} {ops : Array Oper} {ms : List Nat} {wr : T (Option Nat)} {L : List PStep}
variable (st : Static c ops ms wr L) {tr : Trace c app sz ops L} {ρ0 : Map} {w0 : World} {a0 : Act} {listed : Array Bool} {m : Nat} {σ : Map} {a : Act} {w : World}
include st
theorem Inv.slots (inv : Inv (ms := ms) tr ρ0 w0 a0 listed m σ a w) {k : Nat} {s : PStep} (hs : L[k]? = some s) (hl : ¬ isIn listed s.i) {σ' : Map} (hsub : Sub σ σ') {v : AV} {z : Value}
  (hv : VR (cut σ' (tr.H (k + 1)).nxt) v z) (hE : s.o.dst = none → tr.E (k + 1) = tr.E k) (hE2 : ∀ t, s.o.dst = some t → t < sz ∧ tr.E (k + 1) = (tr.E k).set und t v) :
  (∀ t : Tmp, (∀ (j : Nat) (x : PStep), L[j]? = some x → isIn (listed.setIfInBounds s.i true) x.i → x.o.dst ≠ some t) → VR ρ0 ((tr.E 0).get und t) ((a.put s.o.dst z).tmps.getD t undef)) ∧
  (∀ (j : Nat) (x : PStep) (t : Tmp), L[j]? = some x → isIn (listed.setIfInBounds s.i true) x.i → x.o.dst = some t → VR (cut σ' (tr.H (j + 1)).nxt) ((tr.E (j + 1)).get und t) ((a.put s.o.dst z).tmps.getD t undef)) := by
 have hi : s.i < listed.size := by rw [inv.size]; exact st.lt hs
 constructor
 ·intro t ht
  rw [put_get (ht k s hs ((in_set hi).2 (.inl rfl)))]
  exact inv.slot0 t fun j x hx hlx => ht j x hx ((in_set hi).2 (.inr hlx))
 ·intro j x t hx hlx hd
  by_cases hjk : j = k
  ·subst hjk
   rw [hs] at hx; cases hx
   obtain ⟨h1, h2⟩ := hE2 t hd
   rw [hd, put_same (by rw [inv.tsz]; exact h1), h2, get_set_same]
   exact hv
  ·have hlx' : isIn listed x.i := by
    rcases (in_set hi).1 hlx with q | q
    ·exact absurd (st.uniq hx hs q) hjk
    ·exact q
   rw [put_get (fun q => hjk (st.writer hx hs hd q))]
   exact (inv.slot1 j x t hx hlx' hd).mono (cut_sub2 hsub _)
theorem Inv.put (inv : Inv (ms := ms) tr ρ0 w0 a0 listed m σ a w) {k : Nat} {s : PStep} (hk : m ≤ k) (hs : L[k]? = some s) (hl : ¬ isIn listed s.i) (hpm : ∀ j, bitB s.pm j = true → isIn listed j) (hnw : tr.B (k + 1) = tr.B k)
  {σ' : Map} {w' : World} {v : AV} {z : Value} (hsub : Sub σ σ') (hg : Good ρ0 (tr.H 0) w0 (cut σ' (tr.H m).nxt) (tr.H m) w') (hsize : w.heap.size ≤ w'.heap.size) (hblk : ∀ B, B < w.heap.size → w'.heap[B]? = w.heap[B]?)
  (hdom : ∀ i p, σ' i = some p → σ i = some p ∨ (i = (tr.H k).nxt ∧ (tr.H (k + 1)).nxt = i + 1))
  (hnew : ∀ i B M, σ' i = some (B, M) → σ i = none → w.heap.size ≤ B)
  (hearly : tr.H (k + 1) = tr.H k ∨
   ∃ b B M, tr.H (k + 1) = (tr.H k).new b ∧ AlOk b ∧ σ' (tr.H k).nxt = some (B, M) ∧ B < w'.heap.size ∧ w0.heap.size ≤ B ∧ (∀ j M', j ≠ (tr.H k).nxt → σ' j ≠ some (B, M')) ∧ ABR (cut σ' (tr.H (k + 1)).nxt) b B M w' ∧ σ'.F B = [])
  (hF : ∀ B, B < w.heap.size → σ'.F B = σ.F B)
  (hv : VR (cut σ' (tr.H (k + 1)).nxt) v z) (hE : s.o.dst = none → tr.E (k + 1) = tr.E k) (hE2 : ∀ t, s.o.dst = some t → t < sz ∧ tr.E (k + 1) = (tr.E k).set und t v) :
  Inv (ms := ms) tr ρ0 w0 a0 (listed.setIfInBounds s.i true) m σ' (a.put s.o.dst z) w' := by
 have hi : s.i < listed.size := by rw [inv.size]; exact st.lt hs
 obtain ⟨s0, s1⟩ := inv.slots st hs hl hsub hv hE hE2
 refine { size := by simp [inv.size], le := inv.le, pre := ?_, nowork := ?_, closed := ?_, good := hg, base := inv.base, dom := ?_, early := ?_, tsz := put_size.trans inv.tsz, slot0 := s0, slot1 := s1, defers := put_defers.trans inv.defers }
 ·intro j x hj hx; exact (in_set hi).2 (.inr (inv.pre j x hj hx))
 ·intro j x hj hx hlx
  rcases (in_set hi).1 hlx with q | q
  ·have := st.uniq hx hs q
   subst this; rw [hs] at hx; cases hx; exact hnw
  ·exact inv.nowork j x hj hx q
 ·intro i pm j hli hpmi hb
  rcases (in_set hi).1 hli with q | q
  ·subst q
   rw [(st.at_ k s hs).2.1] at hpmi; cases hpmi
   exact (in_set hi).2 (.inr (hpm j hb))
  ·exact (in_set hi).2 (.inr (inv.closed i pm j q hpmi hb))
 ·intro i p hip
  rcases hdom i p hip with q | ⟨q1, q2⟩
  ·rcases inv.dom i p q with q | ⟨j, x, h1, h2, h3, h4, h5⟩
   ·exact .inl q
   ·exact .inr ⟨j, x, h1, h2, (in_set hi).2 (.inr h3), h4, h5⟩
  ·exact .inr ⟨k, s, hk, hs, (in_set hi).2 (.inl rfl), q1, q2⟩
 ·intro j x hj hx hlx
  rcases (in_set hi).1 hlx with q | q
  ·have := st.uniq hx hs q
   subst this; rw [hs] at hx; cases hx; exact hearly
  ·rcases inv.early j x hj hx q with e | ⟨b, B, M, e, h1, h2, h3, h4, h5, h6, h6F⟩
   ·exact .inl e
   ·refine .inr ⟨b, B, M, e, h1, hsub _ _ h2, Nat.lt_of_lt_of_le h3 hsize, h4, fun i M' hne q => ?_, (h6.mono (cut_sub2 hsub _)).block (hblk B h3), (hF B h3).trans h6F⟩
    cases hc : σ i with
    | none => have := hnew i B M' q hc; omega
    | some p =>
     have h7 := hsub i p hc
     rw [q] at h7; cases h7
     exact h5 i M' hne hc
def glue (ρ' σ : Map) (x : Nat) : Map := ⟨fun i => if i < x then ρ' i else σ i, ρ'.F, ρ'.V⟩
theorem Inv.work (inv : Inv (ms := ms) tr ρ0 w0 a0 listed m σ a w) {s : PStep} (hs : L[m]? = some s) (hl : ¬ isIn listed s.i) (hpm : ∀ j, bitB s.pm j = true → isIn listed j)
  {ρ' : Map} {w' : World} {v : AV} {z : Value} (g : Good (cut σ (tr.H m).nxt) (tr.H m) w ρ' (tr.H (m + 1)) w') (hv : VR ρ' v z) (hB : tr.B (m + 1) = (tr.H (m + 1), s.i) :: tr.B m)
  (hE : s.o.dst = none → tr.E (m + 1) = tr.E m) (hE2 : ∀ t, s.o.dst = some t → t < sz ∧ tr.E (m + 1) = (tr.E m).set und t v) :
  Inv (ms := ms) tr ρ0 w0 a0 (listed.setIfInBounds s.i true) (m + 1) (glue ρ' σ (tr.H (m + 1)).nxt) (a.put s.o.dst z) w' := by
 have hlt : m < L.length := (List.getElem?_eq_some_iff.1 hs).1
 have hi : s.i < listed.size := by rw [inv.size]; exact st.lt hs
 have hup : FreeIdx ρ' (tr.H (m + 1)) := g.upI (fun i hi => cut_ge hi)
 have hn : (tr.H m).nxt ≤ (tr.H (m + 1)).nxt := g.nxt
 have hcut : cut (glue ρ' σ (tr.H (m + 1)).nxt) (tr.H (m + 1)).nxt = ρ' := by
  refine Map.same (fun i => ?_) rfl rfl
  by_cases h : i < (tr.H (m + 1)).nxt
  ·rw [cut_lt h]
   show (if i < (tr.H (m + 1)).nxt then ρ' i else σ i) = _
   rw [if_pos h]
  ·rw [cut_ge (by omega), hup i (by omega)]
 have hlater : ∀ i p, σ i = some p → i < (tr.H m).nxt ∨ (tr.H (m + 1)).nxt ≤ i := fun i p hip => by
  rcases inv.dom i p hip with q | ⟨j, x, h1, h2, h3, h4, h5⟩
  ·exact .inl q
  ·have hjm : j ≠ m := fun e => by subst e; rw [hs] at h2; cases h2; exact hl h3
   have hjl := (List.getElem?_eq_some_iff.1 h2).1
   have := tr.mono st (m := m + 1) (m' := j) (by omega) (by omega)
   exact .inr (by omega)
 have hsub : Sub σ (glue ρ' σ (tr.H (m + 1)).nxt) := ⟨(fun i p hip => by
  show (if i < (tr.H (m + 1)).nxt then ρ' i else σ i) = some p
  rcases hlater i p hip with q | q
  ·rw [if_pos (by omega)]
   exact g.sub i p (by rw [cut_lt q]; exact hip)
  ·rw [if_neg (by omega)]; exact hip), g.sub.F, g.sub.V⟩
 obtain ⟨s0, s1⟩ := inv.slots st hs hl hsub (v := v) (z := z) (by rw [hcut]; exact hv) hE hE2
 refine { size := by simp [inv.size], le := hlt, pre := ?_, nowork := ?_, closed := ?_, good := by rw [hcut]; exact inv.good.trans g, base := ⟨_, _, _, hB, HLe.refl _⟩, dom := ?_, early := ?_, tsz := put_size.trans inv.tsz, slot0 := s0, slot1 := s1, defers := put_defers.trans inv.defers }
 ·intro j x hj hx
  by_cases hjm : j = m
  ·subst hjm; rw [hs] at hx; cases hx; exact (in_set hi).2 (.inl rfl)
  ·exact (in_set hi).2 (.inr (inv.pre j x (by omega) hx))
 ·intro j x hj hx hlx
  rcases (in_set hi).1 hlx with q | q
  ·have := st.uniq hx hs q; omega
  ·exact inv.nowork j x (by omega) hx q
 ·intro i pm j hli hpmi hb
  rcases (in_set hi).1 hli with q | q
  ·subst q
   rw [(st.at_ m s hs).2.1] at hpmi; cases hpmi
   exact (in_set hi).2 (.inr (hpm j hb))
  ·exact (in_set hi).2 (.inr (inv.closed i pm j q hpmi hb))
 ·intro i p hip
  by_cases h : i < (tr.H (m + 1)).nxt
  ·exact .inl h
  ·have hip' : (if i < (tr.H (m + 1)).nxt then ρ' i else σ i) = some p := hip
   rw [if_neg h] at hip'
   rcases inv.dom i p hip' with q | ⟨j, x, h1, h2, h3, h4, h5⟩
   ·omega
   ·have hjm : j ≠ m := fun e => by subst e; rw [hs] at h2; cases h2; exact hl h3
    exact .inr ⟨j, x, by omega, h2, (in_set hi).2 (.inr h3), h4, h5⟩
 ·intro j x hj hx hlx
  have hlx' : isIn listed x.i := by
   rcases (in_set hi).1 hlx with q | q
   ·have := st.uniq hx hs q; omega
   ·exact q
  rcases inv.early j x (by omega) hx hlx' with e | ⟨b, B, M, e, h1, h2, h3, h4, h5, h6, h6F⟩
  ·exact .inl e
  ·have hjl := (List.getElem?_eq_some_iff.1 hx).1
   have hnj := tr.mono st (m := m + 1) (m' := j) (by omega) (by omega)
   have hno : ∀ i M', cut σ (tr.H m).nxt i ≠ some (B, M') := fun i M' q => by
    by_cases hi2 : i < (tr.H m).nxt
    ·exact h5 i M' (by omega) (cut_sub _ _ _ _ q)
    ·rw [cut_ge (by omega)] at q; cases q
   refine .inr ⟨b, B, M, e, h1, hsub _ _ h2, Nat.lt_of_lt_of_le h3 g.same.size, h4, fun i M' hne q => ?_, (h6.mono (cut_sub2 hsub _)).block (g.frame B h3 (fun i N q _ => hno i N q)), (g.fold B h3 (fun i N q _ => hno i N q)).trans h6F⟩
   have q' : (if i < (tr.H (m + 1)).nxt then ρ' i else σ i) = some (B, M') := q
   by_cases hi2 : i < (tr.H (m + 1)).nxt
   ·rw [if_pos hi2] at q'
    cases hc : cut σ (tr.H m).nxt i with
    | none =>
     rcases g.newb i B M' q' hc with q2 | ⟨j2, M2, q2, _⟩
     ·omega
     ·exact hno j2 M2 q2
    | some p =>
     have := g.sub i p hc
     rw [q'] at this; cases this
     exact hno i M' hc
   ·rw [if_neg hi2] at q'
    exact h5 i M' hne q'
omit st in
theorem Inv.lt (inv : Inv (ms := ms) tr ρ0 w0 a0 listed m σ a w) : ∀ i B N, σ i = some (B, N) → B < w.heap.size := fun i B N h => by
 rcases inv.dom i _ h with q | ⟨j, x, h1, h2, h3, h4, h5⟩
 ·exact inv.good.hr.lt i B N (by rw [cut_lt q]; exact h)
 ·rcases inv.early j x h1 h2 h3 with e | ⟨b, B', M, e, g1, g2, g3, _⟩
  ·rw [e] at h5; omega
  ·rw [← h4, h] at g2; cases g2; exact g3
omit st in
theorem Inv.hr (inv : Inv (ms := ms) tr ρ0 w0 a0 listed m σ a w) {x : Nat} (hx : (tr.H m).nxt ≤ x) : HR (cut σ x) (tr.H m) w := by
 have hno : ∀ i, ¬ i < (tr.H m).nxt → ¬ (tr.H m).ok i := fun i hi ho => by
  unfold Heap.ok at ho
  rw [inv.good.wf.fresh i (by omega)] at ho; exact ho
 have hlow : ∀ i, i < (tr.H m).nxt → cut σ x i = cut σ (tr.H m).nxt i := fun i hi => by rw [cut_lt hi, cut_lt (by omega)]
 refine ⟨fun i B N h => inv.lt i B N (cut_sub _ _ _ _ h), fun i B N h ho => ?_, fun i j B N M hij h1 h2 o1 o2 => ?_, fun i r e => ?_, inv.good.hr.fz, fun i B N h ho => ?_, fun i t z n l e => ?_⟩
 ·by_cases hi : i < (tr.H m).nxt
  ·rw [hlow i hi] at h
   exact (inv.good.hr.ok i B N h ho).mono (cut_mono _ hx)
  ·exact absurd ho (hno i hi)
 ·by_cases hi : i < (tr.H m).nxt
  ·by_cases hj : j < (tr.H m).nxt
   ·rw [hlow i hi] at h1
    rw [hlow j hj] at h2
    exact inv.good.hr.inj i j B N M hij h1 h2 o1 o2
   ·exact absurd o2 (hno j hj)
  ·exact absurd o1 (hno i hi)
 ·by_cases hi : i < (tr.H m).nxt
  ·obtain ⟨N, hN⟩ := inv.good.hr.gl i r e
   exact ⟨N, by rw [hlow i hi]; exact hN⟩
  ·exact absurd (by unfold Heap.ok; rw [e]; trivial) (hno i hi)
 ·by_cases hi : i < (tr.H m).nxt
  ·rw [hlow i hi] at h
   exact inv.good.hr.sep i B N h ho
  ·exact absurd ho (hno i hi)
 ·by_cases hi : i < (tr.H m).nxt
  ·exact (inv.good.hr.av i t z n l e).mono (cut_mono _ hx)
  ·exact absurd (by unfold Heap.ok; rw [e]; trivial) (hno i hi)
def bare (n : Nat) : Heap := ⟨n, .leaf, .leaf, []⟩
omit st in
theorem bare_wf (n : Nat) : WF (bare n) := by
 refine ⟨fun i _ => rfl, fun i r q e => ?_, fun i r q t e => ?_, fun q _ => rfl⟩
 ·have : (bare n).get i = .none := rfl
  rw [this] at e; cases e
 ·have : (bare n).get i = .none := rfl
  rw [this] at e; cases e
omit st in
theorem bare_no (n i : Nat) : ¬ (bare n).ok i := fun h => h
omit st in
theorem bare_hr {τ : Map} {w : World} (n : Nat) (h : ∀ i B N, τ i = some (B, N) → B < w.heap.size) (hf : ∀ B j x, (τ.F B)[j]? = some x → w.cell? ⟨B, j, none⟩ = some x) : HR τ (bare n) w :=
 ⟨h, fun i B N _ o => absurd o (bare_no n i), fun i j B N M _ _ _ o => absurd o (bare_no n i), (fun i r e => by cases e), hf, fun i B N _ o => absurd o (bare_no n i), fun k t z m l e => by cases e⟩
variable (k : CtxOk c) (ha : AppOk c app)
include k ha
theorem step_any {ro : Option Nat} {Q : Exit → Act → World → Prop} (hgl : ∀ i r, c.g0.get i = .gl r → (tr.H 0).get i = .gl r) (inv : Inv (ms := ms) tr ρ0 w0 a0 listed m σ a w) (norm : ∀ s, L[m]? = some s → ¬ isIn listed s.i) {j : Nat} {s : PStep} (hs : L[j]? = some s) (hl : ¬ isIn listed s.i)
  (hpm : ∀ i, bitB s.pm i = true → isIn listed i) {K : Act → World → Prop} (hK : ∀ m2 σ2 a2 w2, Inv (ms := ms) tr ρ0 w0 a0 (listed.setIfInBounds s.i true) m2 σ2 a2 w2 → K a2 w2) : wpOpIn (wideR ro) 0 c.P ops Q s.i K a w := by
 have hjm : m ≤ j := by
  by_cases h : m ≤ j
  ·exact h
  ·exact absurd (inv.pre j s (by omega) hs) hl
 have hjl := (List.getElem?_eq_some_iff.1 hs).1
 obtain ⟨hso, hspm, hscl⟩ := st.at_ j s hs
 have hnm : (tr.H m).nxt ≤ (tr.H j).nxt := tr.mono st hjm (by omega)
 obtain ⟨e', he', er⟩ := env_exists (τ := cut σ (tr.H j).nxt) (E := tr.E j) inv.tsz (tmpsOf s.o.op.operands.toList ++ guardSlot ops.toList s.o) (fun t ht => inv.look st hjm hs hl hpm (by simpa using ht))
 have hw' : wantA ops.toList (tr.E j) s.o = wantA ops.toList e' s.o := want_agree fun t ht => he' t (List.mem_append_right _ ht)
 have hop : ∀ h, opA c (tr.E j) h s.o.op = opA c e' h s.o.op := fun h => opA_congr _ (ev_agree fun t ht => he' t (List.mem_append_left _ ht))
 have hopR : ∀ h, opR c app (tr.E j) h s.o.op = opR c app e' h s.o.op := fun h => opR_congr (ev_agree fun t ht => he' t (List.mem_append_left _ ht))
 obtain ⟨v, r, hE, hE2⟩ := tr.res hs
 have hτlt : ∀ i B N, cut σ (tr.H j).nxt i = some (B, N) → B < w.heap.size := fun i B N h => inv.lt i B N (cut_sub _ _ _ _ h)
 have hnomid : ∀ i, (tr.H j).nxt ≤ i → (tr.H (j + 1)).nxt = (tr.H j).nxt + 1 → i < (tr.H (j + 1)).nxt → σ i = none := fun i h1 h2 h3 => by
  cases hc : σ i with
  | none => rfl
  | some p =>
   rcases inv.dom i p hc with q | ⟨j2, x, g1, g2, g3, g4, g5⟩
   ·omega
   ·have hjj : j2 ≠ j := fun e => by subst e; rw [hs] at g2; cases g2; exact hl g3
    have hj2l := (List.getElem?_eq_some_iff.1 g2).1
    rcases Nat.lt_or_gt_of_ne hjj with q | q
    ·have := tr.mono st (m := j2 + 1) (m' := j) (by omega) (by omega); omega
    ·have := tr.mono st (m := j + 1) (m' := j2) (by omega) (by omega); omega
 unfold wpOpIn
 rw [hso]
 simp only []
 cases r with
 | un h1 h2 h3 h4 =>
  rw [if_neg (by rw [wantA_ok er (hw'.symm.trans h1)]; simp)]
  subst h2
  refine ⟨fun _ _ => trivial, hK m σ _ w ?_⟩
  exact inv.put st hjm hs hl hpm h4 (Sub.refl _) inv.good (Nat.le_refl _) (fun _ _ => rfl) (fun i p h => .inl h) (fun i B M h h' => by rw [h] at h'; cases h') (.inl h3) (fun _ _ => rfl) (und_ok _) hE hE2
 | pure h1 h2 h5 h3 h4 =>
  rw [if_pos (wantA_ok er (hw'.symm.trans h1))]
  refine ⟨fun _ _ => trivial, ?_⟩
  obtain ⟨g1, h5⟩ := h5
  rw [hop] at h5
  rw [show (wideR ro).round = ro from rfl, Oper.semAt_eq ro a.eval s.o (opA_defer h5)]
  obtain ⟨_, hpure⟩ := pure_spec (by rw [← hscl]; exact h2) h5
  obtain ⟨nx, w', τ', q1, q2, q3⟩ := opA_ok k (bare_hr (tr.H j).nxt hτlt inv.good.hr.fz) (bare_wf _) (fun i a b => absurd b (by omega)) er (hpure (bare (tr.H j).nxt))
  have hblk : ∀ B, B < w.heap.size → w'.heap[B]? = w.heap[B]? := fun B hB => q2.frame B hB (fun i N _ => bare_no _ i)
  have hFo : ∀ B, B < w.heap.size → τ'.F B = σ.F B := fun B hB => q2.fold B hB (fun i N _ => bare_no _ i)
  have hτ : τ' = cut ⟨σ.m, τ'.F, σ.V⟩ (tr.H j).nxt := by
   refine Map.same (fun i => ?_) rfl q2.V
   have e0 : (cut ⟨σ.m, τ'.F, σ.V⟩ (tr.H j).nxt) i = (cut σ (tr.H j).nxt) i := rfl
   rw [e0]
   cases hc : τ' i with
   | none =>
    cases hd : cut σ (tr.H j).nxt i with
    | none => rfl
    | some p => rw [q2.sub i p hd] at hc; cases hc
   | some p =>
    rcases q2.dom i p hc with e | ⟨e1, e2⟩
    ·exact e.symm
    ·omega
  have hsub : Sub σ ⟨σ.m, τ'.F, σ.V⟩ := ⟨fun _ _ e => e, q2.sub.F, fun _ _ _ e => e⟩
  have hfin : ∀ z, VR τ' v z → K (a.put s.o.dst z) w' := fun z hz => by
   refine hK m ⟨σ.m, τ'.F, σ.V⟩ _ w' (inv.put st hjm hs hl hpm h4 hsub (inv.good.frz q2.same hblk q2.sub.F hFo q2.hr.fz) q2.same.size hblk (fun i p h => .inl h) (fun i B M h h' => by rw [show σ.m i = some (B, M) from h] at h'; cases h') (.inl h3) hFo (by rw [h3, ← hτ]; exact hz) hE hE2)
  rw [q1]
  rcases q3 with ⟨z, rfl, q3⟩ | ⟨rfl, q3⟩
  ·exact hfin z q3
  ·exact hfin undef q3
 | light h1 h2 h5 h3 h4 =>
  rw [if_pos (wantA_ok er (hw'.symm.trans h1))]
  refine ⟨fun _ _ => trivial, ?_⟩
  obtain ⟨g, jj, rest, b1, b2⟩ := inv.base
  obtain ⟨pre, p1, p2⟩ := tr.bases hjm (by omega)
  have hcl : cls c s.o.op = .light := by rw [← hscl]; exact h2
  obtain ⟨g', hg'⟩ := (lightV_spec h5).2 pre g jj rest (by rw [p1, b1]) (fun x hx => by
   obtain ⟨i, y, y1, y2, y3, y4, y5⟩ := p2 x hx
   cases hb : bitB s.pm x.2 with
   | false => rfl
   | true =>
    have hly := hpm _ hb
    rw [← y5] at hly
    exact absurd (inv.nowork i y y1 y3 hly) y4)
  rw [hop] at hg'
  have hH := light_mono b2 hcl hg'
  rw [show (wideR ro).round = ro from rfl, Oper.semAt_eq ro a.eval s.o (opA_defer hH)]
  obtain ⟨nx, q1, q3⟩ := light_ok k (inv.hr hnm) er hcl hH
  have hfin : ∀ z, VR (cut σ (tr.H j).nxt) v z → K (a.put s.o.dst z) w := fun z hz =>
   hK m σ _ w (inv.put st hjm hs hl hpm h4 (Sub.refl _) inv.good (Nat.le_refl _) (fun _ _ => rfl) (fun i p h => .inl h) (fun i B M h h' => by rw [h] at h'; cases h') (.inl h3) (fun _ _ => rfl) (by rw [h3]; exact hz) hE hE2)
  rw [q1]
  rcases q3 with ⟨z, rfl, q3⟩ | ⟨rfl, q3⟩
  ·exact hfin z q3
  ·exact hfin undef q3
 | alloc h1 h2 h5 h4 =>
  rw [if_pos (wantA_ok er (hw'.symm.trans h1))]
  refine ⟨fun _ _ => trivial, ?_⟩
  rw [hop] at h5
  rw [show (wideR ro).round = ro from rfl, Oper.semAt_eq ro a.eval s.o (opA_defer h5)]
  obtain ⟨b, hb1, hb2, hb3, hb4⟩ := alloc_spec (by rw [← hscl]; exact h2) h5
  have hnn : (tr.H (j + 1)).nxt = (tr.H j).nxt + 1 := by rw [hb1]; rfl
  have hσn : σ (tr.H j).nxt = none := hnomid _ (Nat.le_refl _) hnn (by omega)
  obtain ⟨nx, w', τ', q1, q2, q3⟩ := opA_ok k (bare_hr (tr.H j).nxt hτlt inv.good.hr.fz) (bare_wf _) (fun i a b => cut_ge (show (tr.H j).nxt ≤ i from a)) er (hb4 (bare (tr.H j).nxt) rfl)
  have hn2 : ((bare (tr.H j).nxt).new b).nxt = (tr.H j).nxt + 1 := rfl
  obtain ⟨⟨B, M⟩, hBM⟩ := Option.isSome_iff_exists.1 (q2.full (tr.H j).nxt (Nat.le_refl _) (by rw [hn2]; omega))
  have hFo : ∀ B, B < w.heap.size → τ'.F B = σ.F B := fun B hB => q2.fold B hB (fun i N _ => bare_no _ i)
  have hσ' : cut ⟨(upd σ (tr.H j).nxt (B, M)).m, τ'.F, σ.V⟩ (tr.H (j + 1)).nxt = τ' := by
   refine Map.same (fun i => ?_) rfl q2.V.symm
   rw [show cut ⟨(upd σ (tr.H j).nxt (B, M)).m, τ'.F, σ.V⟩ (tr.H (j + 1)).nxt i = cut (upd σ (tr.H j).nxt (B, M)) (tr.H (j + 1)).nxt i from rfl]
   rw [hnn]
   by_cases hi : i = (tr.H j).nxt
   ·subst hi; rw [cut_lt (by omega), upd_same, hBM]
   ·by_cases hi2 : i < (tr.H j).nxt
    ·rw [cut_lt (by omega), upd_ne _ _ hi]
     cases hc : σ i with
     | some p => rw [q2.sub i p (by rw [cut_lt hi2]; exact hc)]
     | none =>
      cases hd : τ' i with
      | none => rfl
      | some p =>
       rcases q2.dom i p hd with e | ⟨e1, e2⟩
       ·rw [cut_lt hi2, hc] at e; cases e
       ·have : (tr.H j).nxt ≤ i := e1
        omega
    ·rw [cut_ge (by omega)]
     cases hd : τ' i with
     | none => rfl
     | some p =>
      rcases q2.dom i p hd with e | ⟨e1, e2⟩
      ·rw [cut_ge (by omega)] at e; cases e
      ·rw [hn2] at e2; omega
  have hblk : ∀ B, B < w.heap.size → w'.heap[B]? = w.heap[B]? := fun B hB => q2.frame B hB (fun i N _ => bare_no _ i)
  have hBge : w.heap.size ≤ B := by
   rcases q2.newb _ B M hBM (cut_ge (Nat.le_refl _)) with e | ⟨j2, M2, _, e⟩
   ·exact e
   ·exact absurd e (bare_no _ j2)
  have hget : ((bare (tr.H j).nxt).new b).get (tr.H j).nxt = b := by
   have := Heap.get_new (bare (tr.H j).nxt) (tr.H j).nxt b
   rw [this]; exact if_pos rfl
  have hABR : ABR τ' b B M w' := by
   have := q2.hr.ok (tr.H j).nxt B M hBM (by
    unfold Heap.ok
    rw [hget]
    cases hbb : b with
    | none => exact absurd hbb hb3
    | row r =>
     simp only []
     rw [Heap.row_of (show ((bare (tr.H j).nxt).new (AB.row r)).get (tr.H j).nxt = .row r by rw [← hbb]; exact hget), hb2.row r hbb]; rfl
    | _ => trivial)
   rw [hget] at this; exact this
  have hsub : Sub σ ⟨(upd σ (tr.H j).nxt (B, M)).m, τ'.F, σ.V⟩ := ⟨(upd_sub hσn).m, q2.sub.F, fun _ _ _ e => e⟩
  have hcutm : cut ⟨(upd σ (tr.H j).nxt (B, M)).m, τ'.F, σ.V⟩ (tr.H m).nxt = ⟨(cut σ (tr.H m).nxt).m, τ'.F, σ.V⟩ := by
   refine Map.same (fun i => ?_) rfl rfl
   rw [show cut ⟨(upd σ (tr.H j).nxt (B, M)).m, τ'.F, σ.V⟩ (tr.H m).nxt i = cut (upd σ (tr.H j).nxt (B, M)) (tr.H m).nxt i from rfl]
   show _ = cut σ (tr.H m).nxt i
   by_cases hi : i < (tr.H m).nxt
   ·rw [cut_lt hi, cut_lt hi, upd_ne _ _ (by omega)]
   ·rw [cut_ge (by omega), cut_ge (by omega)]
  have hFB : τ'.F B = [] := by
   refine q2.hr.F_row hBM ?_ (fun r => by rw [hget]; exact hb2.gl r)
   unfold Heap.ok
   rw [hget]
   cases hbb : b with
   | none => exact absurd hbb hb3
   | row r =>
    simp only []
    rw [Heap.row_of (show ((bare (tr.H j).nxt).new (AB.row r)).get (tr.H j).nxt = .row r by rw [← hbb]; exact hget), hb2.row r hbb]; rfl
   | _ => trivial
  have hfin : ∀ z, VR τ' v z → K (a.put s.o.dst z) w' := fun z hz => by
   refine hK m _ _ w' (inv.put st hjm hs hl hpm h4 hsub (by rw [hcutm]; exact inv.good.frz q2.same hblk q2.sub.F hFo q2.hr.fz) q2.same.size hblk (fun i p h => ?_) (fun i C M' h h' => ?_)
    (.inr ⟨b, B, M, hb1, hb2, upd_same _ _ _, q2.hr.lt _ B M hBM, Nat.le_trans inv.good.same.size hBge, fun i M' hne q => ?_, by rw [hσ']; exact hABR, hFB⟩) hFo (by rw [hσ']; exact hz) hE hE2)
   ·by_cases hi : i = (tr.H j).nxt
    ·exact .inr ⟨hi, by rw [hi]; exact hnn⟩
    ·rw [upd_ne _ _ hi] at h; exact .inl h
   ·by_cases hi : i = (tr.H j).nxt
    ·subst hi; rw [upd_same] at h; cases h; exact hBge
    ·rw [upd_ne _ _ hi] at h; rw [h] at h'; cases h'
   ·rw [upd_ne _ _ hne] at q
    have := inv.lt i B M' q
    omega
  rw [q1]
  rcases q3 with ⟨z, rfl, q3⟩ | ⟨rfl, q3⟩
  ·exact hfin z q3
  ·exact hfin undef q3
 | work h1 h2 h5 h3 h4 =>
  have hjm2 : j = m := by
   by_cases h : j = m
   ·exact h
   ·have hsm : L[m]? = some L[m] := List.getElem?_eq_getElem (by omega)
    have := inB_spec ((st.parts hs).2.1 (by rw [h2]; rfl)) ((doneM_spec L j L[m].i).2 ⟨m, L[m], by omega, hsm, rfl⟩)
    exact absurd (hpm _ this) (norm _ hsm)
  subst hjm2
  rw [if_pos (wantA_ok er (hw'.symm.trans h1))]
  rw [hopR] at h5
  refine opR_ok k ha inv.good.hr inv.good.wf ⟨fun i hi => cut_ge hi, fun i r q => inv.good.gl i r (hgl i r q)⟩ er h5 fun z w' ρ' g hz => ?_
  exact hK _ _ _ w' (inv.work st hs hl hpm g hz h4 hE hE2)
end
end Go.Px
end
section
namespace Go.Px
theorem filt_lt {p q : Nat → Bool} (h : ∀ x, q x = true → p x = true) {i : Nat} (hp : p i = true) (hq : q i = false) : ∀ {l : List Nat}, i ∈ l → (l.filter q).length < (l.filter p).length := by
 have hle : ∀ l : List Nat, (l.filter q).length ≤ (l.filter p).length := by
  intro l
  induction l with
  | nil => simp
  | cons x l ih =>
   rw [List.filter_cons, List.filter_cons]
   cases hx : q x with
   | true => rw [h x hx]; simp; exact ih
   | false =>
    cases p x with
    | true => simp; omega
    | false => simpa using ih
 intro l
 induction l with
 | nil => intro hi; cases hi
 | cons x l ih =>
  intro hi
  rw [List.filter_cons, List.filter_cons]
  by_cases hx : i = x
  ·subst hx
   rw [hp, hq]
   have := hle l
   simp; omega
  ·have hi' : i ∈ l := by
    rcases List.mem_cons.1 hi with e | e
    ·exact absurd e hx
    ·exact e
   have := ih hi'
   cases hqx : q x with
   | true => rw [h x hqx]; simp; exact this
   | false =>
    cases p x with
    | true => simp; omega
    | false => simpa using this
def left (n : Nat) (listed : Array Bool) : Nat := ((List.range n).filter fun i => !listed.getD i false).length
theorem getD_iff {listed : Array Bool} {n i : Nat} (hs : listed.size = n) (hi : i < n) : listed.getD i true = listed.getD i false := by
 simp [Array.getD_eq_getD_getElem?, Array.getElem?_eq_getElem (show i < listed.size by omega)]
section
variable {c : Ctx} {app : App} {sz : Nat} {ops : Array Oper} {ms : List Nat} {wr : T (Option Nat)} {L : List PStep}
variable (st : Static c ops ms wr L) {tr : Trace c app sz ops L} {ρ0 : Map} {w0 : World} {a0 : Act}
include st
omit st in
theorem Inv.fin0 (st : Static c ops ms wr L) {listed : Array Bool} {m : Nat} {σ : Map} {a : Act} {w : World} (inv : Inv (ms := ms) tr ρ0 w0 a0 listed m σ a w) (hm : m = L.length) :
  ∃ ρ', Good ρ0 (tr.H 0) w0 ρ' (tr.H L.length) w ∧ ER ρ' (tr.E L.length) a.tmps sz ∧ a.defers = a0.defers := by
 subst hm
 refine ⟨_, inv.good, ⟨inv.tsz, fun t => ?_⟩, inv.defers⟩
 by_cases hw : ∃ (j : Nat) (x : PStep), L[j]? = some x ∧ x.o.dst = some t
 ·obtain ⟨j, x, hx, hd⟩ := hw
  have hj := (List.getElem?_eq_some_iff.1 hx).1
  have h1 := inv.slot1 j x t hx (inv.pre j x hj hx) hd
  rw [tr.keep (m := j + 1) hj (Nat.le_refl _) t (fun j2 y q1 q2 q3 q4 => by have := st.writer q3 hx q4 hd; omega)]
  exact h1.mono (cut_mono _ (tr.mono st hj (Nat.le_refl _)))
 ·rw [tr.keep (m := 0) (Nat.zero_le _) (Nat.le_refl _) t (fun j2 y q1 q2 q3 q4 => hw ⟨j2, y, q3, q4⟩)]
  exact (inv.slot0 t (fun j x hx _ hd => hw ⟨j, x, hx, hd⟩)).mono inv.good.sub
theorem Inv.len {listed : Array Bool} {m : Nat} {σ : Map} {a : Act} {w : World} (inv : Inv (ms := ms) tr ρ0 w0 a0 listed m σ a w) (norm : ∀ s, L[m]? = some s → ¬ isIn listed s.i) (hr : Region.ready .any ops listed = []) : m = L.length := by
 by_cases h : m = L.length
 ·exact h
 ·have hle := inv.le
  have hs : L[m]? = some L[m] := List.getElem?_eq_getElem (by omega)
  obtain ⟨h1, h2, _⟩ := st.at_ m _ hs
  have : L[m].i ∈ Region.ready .any ops listed := by
   rw [mem_ready]
   refine ⟨?_, L[m].o, h1, fun ed he hb => ?_⟩
   ·rw [getD_iff inv.size (st.lt hs)]
    have := norm _ hs
    unfold isIn at this
    simpa using this
   ·have h3 := st.mask2 _ _ _ h1 h2 ed he hb
    have h4 := inB_spec (st.parts hs).1 h3
    obtain ⟨m', s', q1, q2, q3⟩ := (doneM_spec L m ed.on).1 h4
    rw [← q3]; exact inv.pre m' s' q1 q2
  rw [hr] at this; cases this
variable (k : CtxOk c) (ha : AppOk c app)
include k ha
def pat (p n : Nat) : Array Bool := Array.replicate p true ++ Array.replicate (n - p) false
omit st k ha in
theorem pat_of {p n : Nat} {l : Array Bool} (hn : l.size = n) (hp : p ≤ n) (h1 : ∀ j, j < p → isIn l j) (h2 : ∀ j, p ≤ j → ¬ isIn l j) : l = pat p n := by
 apply Array.ext
 ·simp [pat]; omega
 ·intro i hi hi2
  have h3 : l.getD i false = l[i] := by simp [Array.getD_eq_getD_getElem?, Array.getElem?_eq_getElem hi]
  by_cases hip : i < p
  ·have := h1 i hip
   unfold isIn at this
   rw [h3] at this
   rw [this]
   simp [pat, Array.getElem_append, hip]
  ·have := h2 i (by omega)
   unfold isIn at this
   rw [h3] at this
   have : l[i] = false := by simpa using this
   rw [this]
   simp [pat, Array.getElem_append, hip]
theorem any_okS {ro : Option Nat} {Q : Exit → Act → World → Prop} {p : Nat} (hp : p ≤ ops.size) (hcov : Cover p L) (hlow : ∀ (m : Nat) (s : PStep), L[m]? = some s → s.i < p) (hsuf : ∀ i, p ≤ i → i < ops.size → ∀ j, j < p → ∃ pm, nth ms i = some pm ∧ bitB pm j = true)
  (hgl : ∀ i r, c.g0.get i = .gl r → (tr.H 0).get i = .gl r) (hQ : ∀ fuel a' w' ρ', ops.size - p ≤ fuel → Good ρ0 (tr.H 0) w0 ρ' (tr.H L.length) w' → ER ρ' (tr.E L.length) a'.tmps sz → a'.defers = a0.defers → wpAnyIn (wideR ro) 0 c.P .any ops Q fuel (pat p ops.size) a' w') :
  ∀ (fuel : Nat) (listed : Array Bool) (a : Act) (w : World) (m : Nat) (σ : Map), left ops.size listed ≤ fuel → (∀ j, p ≤ j → ¬ isIn listed j) → Inv (ms := ms) tr ρ0 w0 a0 listed m σ a w → wpAnyIn (wideR ro) 0 c.P .any ops Q fuel listed a w := by
 have whole : ∀ (fuel : Nat) (listed : Array Bool) (a : Act) (w : World) (m : Nat) (σ : Map), left ops.size listed ≤ fuel → (∀ j, p ≤ j → ¬ isIn listed j) → Inv (ms := ms) tr ρ0 w0 a0 listed m σ a w → (∀ s, L[m]? = some s → ¬ isIn listed s.i) → (∀ j, j < p → isIn listed j) → wpAnyIn (wideR ro) 0 c.P .any ops Q fuel listed a w := by
  intro fuel listed a w m σ hu hno inv norm hall
  have hm : m = L.length := by
   by_cases h : m = L.length
   ·exact h
   ·have hle := inv.le
    have hs : L[m]? = some L[m] := List.getElem?_eq_getElem (by omega)
    exact absurd (hall _ (hlow _ _ hs)) (norm _ hs)
  obtain ⟨ρ', g1, g2, g3⟩ := inv.fin0 st hm
  have hpat := pat_of inv.size hp hall hno
  have hleft : ops.size - p ≤ left ops.size listed := by
   unfold left
   have hsub : (List.range' p (ops.size - p)).Sublist ((List.range ops.size).filter fun i => !listed.getD i false) := by
    have h1 : (List.range' p (ops.size - p)) = (List.range' p (ops.size - p)).filter fun i => !listed.getD i false := by
     rw [List.filter_eq_self.2]
     intro x hx
     rw [List.mem_range'_1] at hx
     have := hno x hx.1
     unfold isIn at this
     simpa using this
    rw [h1]
    refine List.Sublist.filter _ ?_
    have h2 : List.range ops.size = List.range p ++ List.range' p (ops.size - p) := by
     rw [List.range_eq_range', List.range_eq_range', show ops.size = p + (ops.size - p) by omega, ← List.range'_append_1]
     simp
    rw [h2]
    exact List.sublist_append_right _ _
   have := hsub.length_le
   simpa using this
  rw [hpat]
  exact hQ fuel a w ρ' (by omega) g1 g2 g3
 intro fuel
 induction fuel with
 | zero =>
  intro listed a w m σ hu hno inv
  obtain ⟨m', inv', norm⟩ := inv.norm st _ m rfl
  by_cases hall : ∀ j, j < p → isIn listed j
  ·exact whole 0 listed a w m' σ hu hno inv' norm hall
  ·exfalso
   have : ∃ j, j < p ∧ ¬ isIn listed j := by
    apply Classical.byContradiction
    intro h
    exact hall fun j hj => Classical.byContradiction fun hn => h ⟨j, hj, hn⟩
   obtain ⟨j, hj, hn⟩ := this
   have : j ∈ (List.range ops.size).filter fun i => !listed.getD i false := by
    rw [List.mem_filter]; exact ⟨List.mem_range.2 (by omega), by unfold isIn at hn; simpa using hn⟩
   have h3 := List.length_pos_of_mem this
   unfold left at hu
   omega
 | succ fuel ih =>
  intro listed a w m σ hu hno inv
  obtain ⟨m', inv', norm⟩ := inv.norm st _ m rfl
  by_cases hall : ∀ j, j < p → isIn listed j
  ·exact whole _ listed a w m' σ hu hno inv' norm hall
  have hex : ∃ j, j < p ∧ ¬ isIn listed j := by
   apply Classical.byContradiction
   intro h
   exact hall fun j hj => Classical.byContradiction fun hn => h ⟨j, hj, hn⟩
  refine ⟨fun hr => ?_, fun i hi => ?_⟩
  ·exfalso
   obtain ⟨j, hj, hn⟩ := hex
   have hm := inv'.len st norm hr
   obtain ⟨m2, s2, q1, q2⟩ := hcov j hj
   exact hn (q2 ▸ inv'.pre m2 s2 (by rw [hm]; exact (List.getElem?_eq_some_iff.1 q1).1) q1)
  ·rw [mem_ready] at hi
   obtain ⟨h1, o, h2, h3⟩ := hi
   have hlt := (Array.getElem?_eq_some_iff.1 h2).1
   rw [getD_iff inv.size hlt] at h1
   have closed : ∀ (pm : Nat), nth ms i = some pm → (∀ x, bitB pm x = true → ∃ ed ∈ o.after, Region.binds .any ed = true ∧ (x = ed.on ∨ bitB (nat0 (nth ms ed.on)) x = true)) → ∀ x, bitB pm x = true → isIn listed x := fun pm a2 hmask x hx => by
    obtain ⟨ed, e1, e2, e3⟩ := hmask x hx
    have e4 := h3 ed e1 e2
    rcases e3 with rfl | e3
    ·exact e4
    ·cases hn : nth ms ed.on with
     | none => rw [hn, show nat0 none = 0 from rfl, bit_zero] at e3; cases e3
     | some y => rw [hn] at e3; exact inv'.closed ed.on y x e4 hn e3
   have hip : i < p := by
    apply Classical.byContradiction
    intro hge
    obtain ⟨j, hj, hn⟩ := hex
    obtain ⟨pm, a2, hb⟩ := hsuf i (by omega) hlt j hj
    exact hn (closed pm a2 (st.mask i o pm h2 a2) j hb)
   obtain ⟨j, s, hs, rfl⟩ := hcov i hip
   obtain ⟨a1, a2, _⟩ := st.at_ j s hs
   rw [a1] at h2; cases h2
   refine step_any st k ha hgl inv' norm hs (by unfold isIn; rw [h1]; simp) (closed _ a2 (st.mask _ _ _ a1 a2)) fun m2 σ2 a2 w2 inv2 => ih _ a2 w2 m2 σ2 ?_ (fun x hx hin => ?_) inv2
   ·have hdec : left ops.size (listed.setIfInBounds s.i true) < left ops.size listed := by
     unfold left
     refine filt_lt (fun x hx => ?_) (i := s.i) (by simp only [h1]; rfl) ?_ (List.mem_range.2 hlt)
     ·cases hlx : listed.getD x false with
      | false => rfl
      | true =>
       have : isIn (listed.setIfInBounds s.i true) x := (in_set (by rw [inv.size]; exact hlt)).2 (.inr hlx)
       unfold isIn at this
       rw [this] at hx; cases hx
     ·have : isIn (listed.setIfInBounds s.i true) s.i := (in_set (by rw [inv.size]; exact hlt)).2 (.inl rfl)
      unfold isIn at this
      rw [this]; rfl
    omega
   ·rcases (in_set (by rw [inv.size]; exact hlt)).1 hin with rfl | hin
    ·omega
    ·exact hno x hx hin
theorem any_ok {ro : Option Nat} {Q : Exit → Act → World → Prop} (hcov : Cover ops.size L) (hgl : ∀ i r, c.g0.get i = .gl r → (tr.H 0).get i = .gl r) (hQ : ∀ a' w' ρ', Good ρ0 (tr.H 0) w0 ρ' (tr.H L.length) w' → ER ρ' (tr.E L.length) a'.tmps sz → a'.defers = a0.defers → Q .normal a' w') :
  ∀ (fuel : Nat) (listed : Array Bool) (a : Act) (w : World) (m : Nat) (σ : Map), left ops.size listed ≤ fuel → (∀ j, ops.size ≤ j → ¬ isIn listed j) → Inv (ms := ms) tr ρ0 w0 a0 listed m σ a w → wpAnyIn (wideR ro) 0 c.P .any ops Q fuel listed a w := by
 refine any_okS st k ha (Nat.le_refl _) hcov (fun m s hs => ?_) (fun i h1 h2 => by omega) hgl fun fuel a' w' ρ' _ g1 g2 g3 => ?_
 ·have := (st.at_ m s hs).1
  exact (Array.getElem?_eq_some_iff.1 this).1
 ·have hr : Region.ready .any ops (pat ops.size ops.size) = [] := by
   cases hc : Region.ready .any ops (pat ops.size ops.size) with
   | nil => rfl
   | cons i r =>
    have hi : i ∈ Region.ready .any ops (pat ops.size ops.size) := by rw [hc]; exact List.mem_cons_self
    rw [mem_ready] at hi
    obtain ⟨h1, o, h2, _⟩ := hi
    have hlt := (Array.getElem?_eq_some_iff.1 h2).1
    simp [pat, Array.getD_eq_getD_getElem?, Array.getElem?_replicate, hlt] at h1
  cases fuel with
  | zero => exact ⟨hr, hQ a' w' ρ' g1 g2 g3⟩
  | succ f => exact ⟨fun _ => hQ a' w' ρ' g1 g2 g3, fun i hi => by rw [hr] at hi; cases hi⟩
end
/-! ## a throw of a coin -/
theorem noApp_ok (c : Ctx) : AppOk c noApp := by
 intro t args h v h' he; cases he
theorem allEq_ok {n : Nat} : ∀ {l : List Nat}, allEq n l = true → ∀ i, i ∈ l → i = n
 | [], _, i, hi => by cases hi
 | x :: l, h, i, hi => by
  have h' : (match Nat.beq x n with | true => allEq n l | false => false) = true := h
  split at h'
  ·rename_i hx
   rcases List.mem_cons.1 hi with rfl | hi
   ·exact beqT hx
   ·exact allEq_ok h' i hi
  ·cases h'
theorem isBoolA_ok {v : AV} (h : isBoolA v = true) : ∃ b, v = .bool b := by
 cases v <;> first | (cases h; done) | exact ⟨_, rfl⟩
theorem coinRun_ok {h : Heap} {y : Nat} {r : SR} (q : coinRun h y r = true) :
  ∃ e g b, r = .ok e g ∧ e.get und y = .bool b ∧ (∀ i, i ∈ g.log → i = h.nxt) ∧ g.nxt = h.nxt + 1 ∧ rootOk g h.nxt = true := by
 unfold coinRun at q
 split at q
 ·cases q
 ·rename_i e g
  split at q
  ·cases q
  ·rename_i hb
   split at q
   ·cases q
   ·rename_i hl
    split at q
    ·rename_i hr
     obtain ⟨b, hb⟩ := isBoolA_ok hb
     exact ⟨e, g, b, rfl, hb, allEq_ok hl, beqT q, hr⟩
    ·cases q
theorem coin_weak {h g : Heap} (wf : WF h) (hl : Logged h.unlog g) (h1 : ∀ i, i ∈ g.log → i = h.nxt) (h2 : g.nxt = h.nxt + 1) (h3 : rootOk g h.nxt = true) : Weak ⟨h.nxt + 1, h.blk, h.tips, h.nxt :: h.log⟩ g := by
 obtain ⟨l, l1, l2⟩ := hl
 have hl' : g.log = l := by rw [l1]; simp [Heap.unlog]
 have far : ∀ i, i ≠ h.nxt → g.get i = h.get i ∧ g.tip i = h.tip i := fun i hi => l2 i (fun q => hi (h1 i (by rw [hl']; exact q)))
 refine ⟨⟨h2.symm, fun i => ?_, fun q => ?_⟩, fun i r q => ?_⟩
 ·by_cases hi : i = h.nxt
  ·subst hi
   refine .inl ⟨wf.fresh _ (Nat.le_refl _), fun s q q1 q2 => ?_⟩
   unfold rootOk at h3
   rw [q1] at h3
   simp only [q2, isNoneN] at h3
   cases h3
  ·exact .inr (.inl (far i hi).1.symm)
 ·by_cases hq : q = h.nxt
  ·subst hq; exact .inl (wf.tipr _ (Nat.le_refl _))
  ·exact .inr (far q hq).2.symm
 ·by_cases hi : i = h.nxt
  ·subst hi
   unfold rootOk at h3
   rw [q] at h3; cases h3
  ·exact (far i hi).1.symm.trans q
theorem coin_masks {ops : Array Oper} {o0 o1 o2 o3 : Oper} (hops : ops = #[o0, o1, o2, o3]) (hm : masks ops.toList [] = [0, 1, 1, 7]) :
  (∀ (l0 l1 l2 l3 : Bool) i, i ∈ Region.ready .any ops #[l0, l1, l2, l3] → (i = 0 ∧ l0 = false) ∨ (i = 1 ∧ l1 = false ∧ l0 = true) ∨ (i = 2 ∧ l2 = false ∧ l0 = true) ∨ (i = 3 ∧ l3 = false ∧ l1 = true ∧ l2 = true)) ∧
  (∀ l1 l2 l3 : Bool, 0 ∈ Region.ready .any ops #[false, l1, l2, l3]) ∧ (∀ l2 l3 : Bool, 1 ∈ Region.ready .any ops #[true, false, l2, l3]) ∧ (∀ l1 l3 : Bool, 2 ∈ Region.ready .any ops #[true, l1, false, l3]) ∧ 3 ∈ Region.ready .any ops #[true, true, true, false] := by
 have at_ : ∀ (i : Nat) o, ops[i]? = some o → ∀ (m : Nat), ([0, 1, 1, 7] : List Nat)[i]? = some m → maskOf (([0, 1, 1, 7] : List Nat).take i) o.after.toList = m := fun i o ho m hi => by
  obtain ⟨n, r, a, b, d⟩ := masks_at ops.toList [] i o (by simpa using ho)
  rw [hm] at a d
  have hn : n = ([0, 1, 1, 7] : List Nat).take i := by
   rw [a, List.take_left' (by simpa using b)]
  simp only [List.length_nil, Nat.zero_add] at d
  rw [hi] at d
  cases d
  rw [hn]
 have m0 := at_ 0 o0 (by subst hops; rfl) 0 rfl
 have m1 := at_ 1 o1 (by subst hops; rfl) 1 rfl
 have m2 := at_ 2 o2 (by subst hops; rfl) 1 rfl
 have m3 := at_ 3 o3 (by subst hops; rfl) 7 rfl
 have e0 : ∀ ed ∈ o0.after, Region.binds .any ed = true → False := fun ed he hb => by
  have := (maskOf_spec (([0, 1, 1, 7] : List Nat).take 0) ed.on o0.after.toList).2 ⟨ed, by simpa using he, by rw [edgeB_eq]; exact hb, .inl rfl⟩
  rw [m0, bit_zero] at this; cases this
 have b1 : ∀ j, bitB 1 j = decide (j = 0) := fun j => bit_one 0 j
 have e1 : ∀ ed ∈ o1.after, Region.binds .any ed = true → ed.on = 0 := fun ed he hb => by
  have := (maskOf_spec (([0, 1, 1, 7] : List Nat).take 1) ed.on o1.after.toList).2 ⟨ed, by simpa using he, by rw [edgeB_eq]; exact hb, .inl rfl⟩
  rw [m1, b1] at this; simpa using this
 have e2 : ∀ ed ∈ o2.after, Region.binds .any ed = true → ed.on = 0 := fun ed he hb => by
  have := (maskOf_spec (([0, 1, 1, 7] : List Nat).take 2) ed.on o2.after.toList).2 ⟨ed, by simpa using he, by rw [edgeB_eq]; exact hb, .inl rfl⟩
  rw [m2, b1] at this; simpa using this
 have b7 : ∀ j, bitB 7 j = true → j < 3 := fun j hj => by
  rw [show (7 : Nat) = orB (bit1 0) (orB (bit1 1) (bit1 2)) from rfl, bit_or, bit_or, bit_one, bit_one, bit_one] at hj
  simp at hj; omega
 have e3 : ∀ ed ∈ o3.after, Region.binds .any ed = true → ed.on < 3 := fun ed he hb => by
  have := (maskOf_spec (([0, 1, 1, 7] : List Nat).take 3) ed.on o3.after.toList).2 ⟨ed, by simpa using he, by rw [edgeB_eq]; exact hb, .inl rfl⟩
  rw [m3] at this; exact b7 _ this
 have x1 : ∃ ed ∈ o1.after, Region.binds .any ed = true ∧ ed.on = 0 := by
  obtain ⟨ed, a, b, _⟩ := (maskOf_spec (([0, 1, 1, 7] : List Nat).take 1) 0 o1.after.toList).1 (by rw [m1]; rfl)
  have ha : ed ∈ o1.after := by simpa using a
  have hb : Region.binds .any ed = true := by rw [← edgeB_eq]; exact b
  exact ⟨ed, ha, hb, e1 ed ha hb⟩
 have x2 : ∃ ed ∈ o2.after, Region.binds .any ed = true ∧ ed.on = 0 := by
  obtain ⟨ed, a, b, _⟩ := (maskOf_spec (([0, 1, 1, 7] : List Nat).take 2) 0 o2.after.toList).1 (by rw [m2]; rfl)
  have ha : ed ∈ o2.after := by simpa using a
  have hb : Region.binds .any ed = true := by rw [← edgeB_eq]; exact b
  exact ⟨ed, ha, hb, e2 ed ha hb⟩
 have x3 : ∀ j, j = 1 ∨ j = 2 → ∃ ed ∈ o3.after, Region.binds .any ed = true ∧ ed.on = j := fun j hj => by
  obtain ⟨ed, a, b, d⟩ := (maskOf_spec (([0, 1, 1, 7] : List Nat).take 3) j o3.after.toList).1 (by rw [m3]; rcases hj with rfl | rfl <;> rfl)
  have ha : ed ∈ o3.after := by simpa using a
  have hb : Region.binds .any ed = true := by rw [← edgeB_eq]; exact b
  refine ⟨ed, ha, hb, ?_⟩
  rcases d with d | d
  ·exact d.symm
  ·exfalso
   have h3 := e3 ed ha hb
   have : ed.on = 0 ∨ ed.on = 1 ∨ ed.on = 2 := by omega
   rcases this with q | q | q <;> rw [q] at d <;> rcases hj with rfl | rfl <;> cases d
 subst hops
 refine ⟨fun l0 l1 l2 l3 i hi => ?_, fun l1 l2 l3 => ?_, fun l2 l3 => ?_, fun l1 l3 => ?_, ?_⟩
 ·rw [mem_ready] at hi
  obtain ⟨h1, o, h2, h3⟩ := hi
  match i, h1, h2 with
  | 0, h1, h2 => exact .inl ⟨rfl, h1⟩
  | 1, h1, h2 =>
   cases h2
   obtain ⟨ed, a, b, d⟩ := x1
   have := h3 ed a b
   rw [d] at this
   exact .inr (.inl ⟨rfl, h1, this⟩)
  | 2, h1, h2 =>
   cases h2
   obtain ⟨ed, a, b, d⟩ := x2
   have := h3 ed a b
   rw [d] at this
   exact .inr (.inr (.inl ⟨rfl, h1, this⟩))
  | 3, h1, h2 =>
   cases h2
   obtain ⟨ed, a, b, d⟩ := x3 1 (.inl rfl)
   have q1 := h3 ed a b
   rw [d] at q1
   obtain ⟨ed, a, b, d⟩ := x3 2 (.inr rfl)
   have q2 := h3 ed a b
   rw [d] at q2
   exact .inr (.inr (.inr ⟨rfl, h1, q1, q2⟩))
  | n + 4, h1, h2 => simp at h2
 ·rw [mem_ready]
  exact ⟨rfl, o0, rfl, fun ed he hb => (e0 ed he hb).elim⟩
 ·rw [mem_ready]
  exact ⟨rfl, o1, rfl, fun ed he hb => by rw [e1 ed he hb]; rfl⟩
 ·rw [mem_ready]
  exact ⟨rfl, o2, rfl, fun ed he hb => by rw [e2 ed he hb]; rfl⟩
 ·rw [mem_ready]
  refine ⟨rfl, o3, rfl, fun ed he hb => ?_⟩
  have h3 := e3 ed he hb
  have : ed.on = 0 ∨ ed.on = 1 ∨ ed.on = 2 := by omega
  rcases this with q | q | q <;> rw [q] <;> rfl
theorem coin_next {ops : Array Oper} (rE : ∀ (l0 l1 l2 l3 : Bool) i, i ∈ Region.ready .any ops #[l0, l1, l2, l3] → (i = 0 ∧ l0 = false) ∨ (i = 1 ∧ l1 = false ∧ l0 = true) ∨ (i = 2 ∧ l2 = false ∧ l0 = true) ∨ (i = 3 ∧ l3 = false ∧ l1 = true ∧ l2 = true)) :
  (∀ j, j ∈ Region.ready .any ops #[false, false, false, false] → j = 0) ∧ (∀ j, j ∈ Region.ready .any ops #[true, false, false, false] → j = 1 ∨ j = 2) ∧ (∀ j, j ∈ Region.ready .any ops #[true, true, false, false] → j = 2) ∧
  (∀ j, j ∈ Region.ready .any ops #[true, false, true, false] → j = 1) ∧ (∀ j, j ∈ Region.ready .any ops #[true, true, true, false] → j = 3) ∧ (∀ j, j ∈ Region.ready .any ops #[true, true, true, true] → False) := by
 refine ⟨fun j hj => ?_, fun j hj => ?_, fun j hj => ?_, fun j hj => ?_, fun j hj => ?_, fun j hj => ?_⟩ <;>
  rcases rE _ _ _ _ _ hj with ⟨a, b⟩ | ⟨a, b, d⟩ | ⟨a, b, d⟩ | ⟨a, b, d, f⟩ <;>
  first
   | (cases b; done)
   | (cases d; done)
   | (cases f; done)
   | exact a
   | exact .inl a
   | exact .inr a
theorem wpAny_one {ro : Option Nat} {P : Program} {ops : Array Oper} {Q : Exit → Act → World → Prop} {fuel : Nat} {listed : Array Bool} {a : Act} {w : World} {i : Nat} (hi : i ∈ Region.ready .any ops listed)
  (h : ∀ j, j ∈ Region.ready .any ops listed → wpOpIn (wideR ro) 0 P ops Q j (wpAnyIn (wideR ro) 0 P .any ops Q fuel (listed.setIfInBounds j true)) a w) : wpAnyIn (wideR ro) 0 P .any ops Q (fuel + 1) listed a w :=
 ⟨fun e => (by rw [e] at hi; cases hi), h⟩
theorem runOps_chop {c : Ctx} {app : App} {sz : Nat} {ops l : List Oper} {o : Oper} {e e' : T AV} {h h' : Heap} (q : runOps c app sz ops (o :: l) e h = .ok e' h') :
  ∃ e1 h1, stepA c app sz ops o e h = .ok e1 h1 ∧ runOps c app sz ops l e1 h1 = .ok e' h' := by
 have q' : (match stepA c app sz ops o e h with | .ok e' h' => runOps c app sz ops l e' h' | .bad l => .bad l) = SR.ok e' h' := q
 split at q'
 ·rename_i e1 h1 hs; exact ⟨e1, h1, hs, q'⟩
 ·cases q'
theorem coin_ok {c : Ctx} (k : CtxOk c) {sz : Nat} {ops : Array Oper} {e e' : T AV} {h h' : Heap} (hd : coinA c sz ops.toList e h = some (e', h')) {ρ : Map} {w : World} {a : Act} {ro : Option Nat} {Q : Exit → Act → World → Prop}
  (hr : HR ρ h w) (wf : WF h) (fr : FreeUp c ρ h) (er : ER ρ e a.tmps sz) (hQ : ∀ a' w' ρ', Good ρ h w ρ' h' w' → ER ρ' e' a'.tmps sz → a'.defers = a.defers → Q .normal a' w') :
  wpAnyIn (wideR ro) 0 c.P .any ops Q ops.size (Array.replicate ops.size false) a w := by
 unfold coinA at hd
 split at hd
 ·cases hd
 ·rename_i o0 r0 hl0
  split at hd
  ·cases hd
  ·rename_i o1 r1
   split at hd
   ·cases hd
   ·rename_i o2 r2
    split at hd
    ·cases hd
    ·rename_i o3 r3
     split at hd
     ·unfold coin4 at hd
      split at hd
      ·cases hd
      ·rename_i hmk
       have hmk := natsEqB_eq hmk
       have hops : ops = #[o0, o1, o2, o3] := by apply Array.ext'; rw [hl0]
       split at hd
       ·cases hd
       ·rename_i hcm
        split at hd
        ·cases hd
        ·rename_i x hx
         split at hd
         ·cases hd
         ·rename_i y hy
          split at hd
          ·cases hd
          ·rename_i hd1
           split at hd
           ·cases hd
           ·rename_i hd2
            split at hd
            ·cases hd
            ·rename_i hA
             split at hd
             ·cases hd
             ·rename_i hB
              cases hd
              have hcm' : ∀ o, o ∈ [o0, o1, o2, o3] → calmOp o.op = true := fun o ho => calmOps_mem hcm o (by rw [hl0]; exact ho)
              obtain ⟨rE, r0, r1, r2, r3⟩ := coin_masks hops hmk
              obtain ⟨q0, q1, q1a, q1b, q3, q4⟩ := coin_next rE
              obtain ⟨eA, gA, bA, ka1, ka2, ka3, ka4, ka5⟩ := coinRun_ok hA
              obtain ⟨eB, gB, bB, kb1, kb2, kb3, kb4, kb5⟩ := coinRun_ok hB
              have fin : ∀ (l : List Oper) (eX : T AV) (gX : Heap) (bX : Bool), (∀ o ∈ l, o = o0 ∨ o = o1 ∨ o = o2 ∨ o = o3) → runOps c noApp sz ops.toList l e h.unlog = .ok eX gX → eX.get und y = .bool bX →
                (∀ i, i ∈ gX.log → i = h.nxt) → gX.nxt = h.nxt + 1 → rootOk gX h.nxt = true → ∀ a' w' ρ', Good ρ h.unlog w ρ' gX w' → ER ρ' eX a'.tmps sz → a'.defers = a.defers → Q .normal a' w' := by
               intro l eX gX bX hl q1 q2 q3 q4 q5 a' w' ρ' g1 g2 g3
               obtain ⟨c1, c2⟩ := runOps_calm (fun o ho => hcm' o (by rcases hl o ho with q | q | q | q <;> simp [q])) q1
               refine hQ a' w' ρ' (g1.ofUnlog.weak (coin_weak wf c1 q3 q4 q5)) ⟨g2.1, fun t => ?_⟩ g3
               rw [get_set]
               by_cases ht : t = y
               ·subst ht
                rw [if_pos rfl]
                have := g2.2 t
                rw [q2] at this
                simp only [VR] at this ⊢
                exact ⟨_, this⟩
               ·rw [if_neg ht, get_set]
                by_cases ht2 : t = x
                ·rw [if_pos ht2]; simp only [VR]
                ·rw [if_neg ht2, ← c2 t (fun o ho q => by
                  rcases hl o ho with r | r | r | r <;> subst r
                  ·rw [hx] at q; cases q; exact ht2 rfl
                  ·rw [hd1] at q; cases q
                  ·rw [hd2] at q; cases q
                  ·rw [hy] at q; cases q; exact ht rfl)]
                 exact g2.2 t
              have i0 : ops[0]? = some o0 := by rw [hops]; rfl
              have i1 : ops[1]? = some o1 := by rw [hops]; rfl
              have i2 : ops[2]? = some o2 := by rw [hops]; rfl
              have i3 : ops[3]? = some o3 := by rw [hops]; rfl
              obtain ⟨e1, h1, s0, t0⟩ := runOps_chop ka1
              obtain ⟨e2, h2, s1, t1⟩ := runOps_chop t0
              obtain ⟨e3, h3, s2, t2⟩ := runOps_chop t1
              obtain ⟨e4, h4, s3, t3⟩ := runOps_chop t2
              have t3' : SR.ok e4 h4 = SR.ok eA gA := t3
              cases t3'
              obtain ⟨f1, k1, u0, v0⟩ := runOps_chop kb1
              rw [s0] at u0; cases u0
              obtain ⟨f2, k2, u1, v1⟩ := runOps_chop v0
              obtain ⟨f3, k3, u2, v2⟩ := runOps_chop v1
              obtain ⟨f4, k4, u3, v3⟩ := runOps_chop v2
              have v3' : SR.ok f4 k4 = SR.ok eB gB := v3
              cases v3'
              have hsz : ops.size = 4 := by rw [hops]; rfl
              have hrep : Array.replicate ops.size false = #[false, false, false, false] := by rw [hsz]; rfl
              rw [hrep, hsz]
              have hn := noApp_ok c
              refine wpAny_one (r0 false false false) fun j hj => ?_
              have hj0 : j = 0 := q0 j hj
              subst hj0
              refine stepA_ok k hn hr.unlog wf.unlog fr i0 er s0 fun a' w' ρ' g1 g2 g3 => ?_
              refine wpAny_one (r1 false false) fun j hj => ?_
              have hj1 : j = 1 ∨ j = 2 := q1 j hj
              rcases hj1 with rfl | rfl
              ·refine stepA_ok k hn g1.hr g1.wf (g1.up fr) i1 g2 s1 fun a2 w2 ρ2 p1 p2 p3 => ?_
               refine wpAny_one (r2 true false) fun j hj => ?_
               have hj2 : j = 2 := q1a j hj
               subst hj2
               refine stepA_ok k hn p1.hr p1.wf (p1.up (g1.up fr)) i2 p2 s2 fun a3 w3 ρ3 x1 x2 x3 => ?_
               refine wpAny_one r3 fun j hj => ?_
               have hj3 : j = 3 := q3 j hj
               subst hj3
               refine stepA_ok k hn x1.hr x1.wf (x1.up (p1.up (g1.up fr))) i3 x2 s3 fun a4 w4 ρ4 y1 y2 y3 => ?_
               refine ⟨?_, fin [o0, o1, o2, o3] _ _ bA (by simp) ka1 ka2 ka3 ka4 ka5 a4 w4 ρ4 (((g1.trans p1).trans x1).trans y1) y2 (by rw [y3, x3, p3, g3])⟩
               cases hc : Region.ready .any ops _ with
               | nil => rfl
               | cons z zs =>
                have h9 : z ∈ z :: zs := List.mem_cons_self
                rw [← hc] at h9
                exact (q4 z h9).elim
              ·refine stepA_ok k hn g1.hr g1.wf (g1.up fr) i2 g2 u1 fun a2 w2 ρ2 p1 p2 p3 => ?_
               refine wpAny_one (r1 true false) fun j hj => ?_
               have hj2 : j = 1 := q1b j hj
               subst hj2
               refine stepA_ok k hn p1.hr p1.wf (p1.up (g1.up fr)) i1 p2 u2 fun a3 w3 ρ3 x1 x2 x3 => ?_
               refine wpAny_one r3 fun j hj => ?_
               have hj3 : j = 3 := q3 j hj
               subst hj3
               refine stepA_ok k hn x1.hr x1.wf (x1.up (p1.up (g1.up fr))) i3 x2 u3 fun a4 w4 ρ4 y1 y2 y3 => ?_
               refine ⟨?_, fin [o0, o2, o1, o3] _ _ bB (by simp) kb1 kb2 kb3 kb4 kb5 a4 w4 ρ4 (((g1.trans p1).trans x1).trans y1) y2 (by rw [y3, x3, p3, g3])⟩
               cases hc : Region.ready .any ops _ with
               | nil => rfl
               | cons z zs =>
                have h9 : z ∈ z :: zs := List.mem_cons_self
                rw [← hc] at h9
                exact (q4 z h9).elim
     ·cases hd
theorem drawA_sound {c : Ctx} (k : CtxOk c) (hm : c.P.follows .mixedOrders = true) : DrawSound c drawA := by
 intro app ha id sz ops e e' h h' hd ρ w a ro Q hr wf fr er hQ
 unfold drawA at hd
 cases hp : plan c ops.toList with
 | none =>
  rw [hp] at hd
  simp only [] at hd
  split at hd
  ·rename_i e1 h1 hc
   cases hd
   refine wpIn_region_any hm ?_
   have hr1 : HR ρ h { w with drawn := w.drawn + 1 } := hr.same rfl
   have g0 : Good ρ h w ρ h { w with drawn := w.drawn + 1 } := (Good.refl hr wf).draw rfl ⟨rfl, rfl, rfl, Nat.le_refl _⟩
   exact coin_ok k hc hr1 wf fr er fun a' w' ρ' g1 g2 g3 => hQ a' w' ρ' (g0.trans g1) g2 g3
  ·cases hd
 | some L =>
  rw [hp] at hd
  simp only [] at hd
  obtain ⟨st, hcov⟩ := plan_static hp
  obtain ⟨tr, t1, t2, t3, t4, t5⟩ := trace_of hd
  refine wpIn_region_any hm ?_
  have hcut : cut ρ h.nxt = ρ := by
   refine Map.same (fun i => ?_) rfl rfl
   by_cases hi : i < h.nxt
   ·exact cut_lt hi
   ·rw [cut_ge (by omega), fr.1 i (by omega)]
  have hnone : ∀ i, ¬ isIn (Array.replicate ops.size false) i := fun i hi => by
   unfold isIn at hi
   rw [Array.getD_eq_getD_getElem?, Array.getElem?_replicate] at hi
   split at hi <;> simp at hi
  refine any_ok st (tr := tr) (ρ0 := ρ) (w0 := w) (a0 := a) k ha hcov (by rw [t2]; exact fr.2) (fun a' w' ρ' g1 g2 g3 => ?_) ops.size _ a _ 0 ρ ?_ ?_ ?_
  ·rw [t2, t5] at g1
   rw [t4] at g2
   exact hQ a' w' ρ' g1 g2 g3
  ·unfold left
   have := List.length_filter_le (fun i => !(Array.replicate ops.size false).getD i false) (List.range ops.size)
   simpa using this
  ·exact fun j _ => hnone j
  ·refine { size := by simp, le := Nat.zero_le _, pre := (fun j s hj => by omega), nowork := fun j s _ _ hi => absurd hi (hnone _), closed := fun i pm j hi => absurd hi (hnone _), good := ?_, base := ⟨h, _, [], t3, (by rw [t2]; exact HLe.refl _)⟩, dom := fun i p hi => ?_, early := (fun j s _ _ hi => absurd hi (hnone _)), tsz := er.1, slot0 := fun t _ => by rw [t1]; exact er.2 t, slot1 := fun j s t _ hi => absurd hi (hnone _), defers := rfl }
   ·rw [t2, hcut]
    exact (Good.refl hr wf).draw rfl ⟨rfl, rfl, rfl, Nat.le_refl _⟩
   ·left
    rw [t2]
    by_cases h1 : i < h.nxt
    ·exact h1
    ·rw [fr.1 i (by omega)] at hi; cases hi
/-! ## few operations -/
theorem runP_calm {c : Ctx} {app : App} {sz : Nat} {ops : List Oper} {s : PStep} {e e' : T AV} {h h' : Heap} {bs bs' : List (Heap × Nat)} (hc : calmOp s.o.op = true) (q : runP c app sz ops s e h bs = .ok e' h' bs') :
  Logged h h' ∧ ∀ t, s.o.dst ≠ some t → e'.get und t = e.get und t := by
 have sr : ∀ {d : Option Tmp} {v : AV} {h1 h2 : Heap} {b1 b2 : List (Heap × Nat)} {e2 : T AV}, setR e d v sz h1 b1 = .ok e2 h2 b2 → h2 = h1 ∧ ∀ t, d ≠ some t → e2.get und t = e.get und t := fun {d v h1 h2 b1 b2 e2} q => by
  unfold setR at q
  split at q
  ·cases q; exact ⟨rfl, fun _ _ => rfl⟩
  ·split at q
   ·cases q; exact ⟨rfl, fun t ht => get_set_ne _ _ (fun k => ht (by rw [k])) _⟩
   ·cases q
 unfold runP at q
 split at q
 ·cases q
 ·obtain ⟨rfl, h2⟩ := sr q; exact ⟨Logged.refl _, h2⟩
 ·split at q
  ·split at q
   ·obtain ⟨rfl, h2⟩ := sr q; exact ⟨Logged.refl _, h2⟩
   ·cases q
  ·split at q
   ·obtain ⟨rfl, h2⟩ := sr q; exact ⟨Logged.refl _, h2⟩
   ·cases q
  ·split at q
   ·rename_i v h1 hop
    obtain ⟨rfl, h2⟩ := sr q; exact ⟨Logged.opA hc hop, h2⟩
   ·cases q
  ·split at q
   ·cases q
   ·rename_i v h1 hop
    split at q
    ·obtain ⟨rfl, h2⟩ := sr q; exact ⟨Logged.opA hc hop, h2⟩
    ·cases q
   ·rename_i t args h1 hop
    exact (calm_noGo hc hop).elim
theorem runPs_calm {c : Ctx} {app : App} {sz : Nat} {ops : List Oper} : ∀ {L : List PStep} {e e' : T AV} {h h' : Heap} {bs : List (Heap × Nat)}, (∀ s ∈ L, calmOp s.o.op = true) → runPs c app sz ops L e h bs = .ok e' h' →
  Logged h h' ∧ ∀ t, (∀ s ∈ L, s.o.dst ≠ some t) → e'.get und t = e.get und t
 | [], e, e', h, h', bs, hc, q => by cases q; exact ⟨Logged.refl _, fun _ _ => rfl⟩
 | s :: L, e, e', h, h', bs, hc, q => by
  have q' : (match runP c app sz ops s e h bs with
   | .ok e' h' bs' => runPs c app sz ops L e' h' bs'
   | .bad l => .bad l) = SR.ok e' h' := q
  split at q'
  ·rename_i e1 h1 b1 hs
   obtain ⟨a1, a2⟩ := runP_calm (hc s List.mem_cons_self) hs
   obtain ⟨c1, c2⟩ := runPs_calm (fun x hx => hc x (List.mem_cons_of_mem _ hx)) q'
   exact ⟨a1.trans c1, fun t ht => (c2 t (fun x hx => ht x (List.mem_cons_of_mem _ hx))).trans (a2 t (ht s List.mem_cons_self))⟩
  ·cases q'
theorem coinA_spec {c : Ctx} {sz : Nat} {ops : List Oper} {e e' : T AV} {h h' : Heap} (hd : coinA c sz ops e h = some (e', h')) :
  ∃ o0 o3 x y, o0 ∈ ops ∧ o3 ∈ ops ∧ o0.dst = some x ∧ o3.dst = some y ∧ e' = (e.set und x .bad).set und y .anyb ∧ h' = ⟨h.nxt + 1, h.blk, h.tips, h.nxt :: h.log⟩ := by
 unfold coinA at hd
 split at hd
 ·cases hd
 ·rename_i o0 r0
  split at hd
  ·cases hd
  ·rename_i o1 r1
   split at hd
   ·cases hd
   ·rename_i o2 r2
    split at hd
    ·cases hd
    ·rename_i o3 r3
     split at hd
     ·unfold coin4 at hd
      split at hd
      ·cases hd
      ·split at hd
       ·cases hd
       ·split at hd
        ·cases hd
        ·rename_i x hx
         split at hd
         ·cases hd
         ·rename_i y hy
          split at hd
          ·cases hd
          ·split at hd
           ·cases hd
           ·split at hd
            ·cases hd
            ·split at hd
             ·cases hd
             ·cases hd
              exact ⟨o0, o3, x, y, by simp, by simp, hx, hy, rfl, rfl⟩
     ·cases hd
theorem drawA_calm : DrawCalm drawA := by
 intro c app sz ops e h e' h' hc hd
 unfold drawA at hd
 split at hd
 ·split at hd
  ·rename_i e1 h1 hco
   cases hd
   obtain ⟨o0, o3, x, y, m0, m3, hx, hy, rfl, rfl⟩ := coinA_spec hco
   refine ⟨⟨[h.nxt], rfl, fun i hi => ⟨rfl, rfl⟩⟩, fun t ht => ?_⟩
   have h1 := ht o0 m0
   have h2 := ht o3 m3
   rw [get_set_ne _ _ (fun q => h2 (by rw [hy, q])), get_set_ne _ _ (fun q => h1 (by rw [hx, q]))]
  ·cases hd
 ·rename_i L hp
  have hmem : ∀ s ∈ L, s.o ∈ ops := fun s hs => by
   have st := (plan_static (ops := ops.toArray) (by simpa using hp)).1
   obtain ⟨m, hm⟩ := List.getElem?_of_mem hs
   have := (st.at_ m s hm).1
   have h2 : ops[s.i]? = some s.o := by simpa using this
   exact List.mem_of_getElem? h2
  obtain ⟨a1, a2⟩ := runPs_calm (fun s hs => calmOps_mem hc _ (hmem s hs)) hd
  exact ⟨a1, fun t ht => a2 t (fun s hs => ht _ (hmem s hs))⟩
end Go.Px
end
section
namespace Go.Px
def eqOk (P : Program) (t : TypeId) : Bool :=
 !P.stoodInHeld t && !P.eqGuardType P.depth t && (match P.underlying t with | some (.struct fs) => fs.toList.all (fun f => !(f.name == "_")) | _ => true)
noncomputable def ctxG (P : Program) (g0 : Heap) : Ctx := ⟨P, ofL P.types.toList, ofL P.funcs.toList, T.put false ((List.range P.types.size).map (eqOk P)) .leaf 0, g0, .leaf⟩
def namesOk (P : Program) : Bool := P.funcs.toList.all fun fn => !(fn.name == "runtime.NumGoroutine")
theorem ctxG_ok {P : Program} {g0 : Heap} (hn : namesOk P = true) : CtxOk (ctxG P g0) := by
 refine ⟨fun t i h => ?_, fun f fn h => ?_, fun f fn h => ?_, fun t h => ?_⟩
 ·have h1 : (ofL P.types.toList).get none t = some i := h
  rw [get_ofL] at h1
  have h2 : P.types[t]? = some i := by simpa using h1
  have h3 : P.info? t = some i := by unfold Tables.info?; rw [if_pos (Array.getElem?_eq_some_iff.1 h2).1]; exact h2
  exact h3
 ·have h1 : (ofL P.funcs.toList).get none f = some fn := h
  rw [get_ofL] at h1
  have h2 : P.funcs[f]? = some fn := by simpa using h1
  exact h2
 ·unfold namesOk at hn
  rw [List.all_eq_true] at hn
  have h1 : P.funcs[f]? = some fn := h
  have := hn fn (by
   obtain ⟨a, b⟩ := Array.getElem?_eq_some_iff.1 h1
   rw [← b]; simp)
  simpa using this
 ·have h1 : T.get false (T.put false ((List.range P.types.size).map (eqOk P)) .leaf 0) t = true := h
  rw [get_put] at h1
  simp only [Nat.zero_le, if_true, Nat.sub_zero, get_leaf] at h1
  cases hq : ((List.range P.types.size).map (eqOk P))[t]? with
  | none => rw [hq] at h1; simp at h1
  | some b =>
   rw [hq] at h1
   simp at h1; subst h1
   rw [List.getElem?_map] at hq
   cases hr : (List.range P.types.size)[t]? with
   | none => rw [hr] at hq; cases hq
   | some x =>
    rw [hr] at hq
    have hx : x = t := by
     rw [List.getElem?_range] at hr
     ·cases hr; rfl
     ·by_cases hlt : t < P.types.size
      ·exact hlt
      ·rw [List.getElem?_eq_none (by simpa using hlt)] at hr; cases hr
    subst hx
    simp only [Option.map_some, Option.some.injEq] at hq
    unfold eqOk at hq
    rw [Bool.and_eq_true, Bool.and_eq_true] at hq
    obtain ⟨⟨q1, q2⟩, q3⟩ := hq
    have q1' : P.stoodInHeld x = false := by simpa using q1
    have q2' : P.eqGuardType P.depth x = false := by simpa using q2
    refine ⟨q1', q2', fun fs hfs f hf => ?_⟩
    have hP : (ctxG P g0).P = P := rfl
    rw [hP] at hfs
    rw [hfs] at q3
    simp only [] at q3
    rw [List.all_eq_true] at q3
    simpa using q3 f hf
theorem h0_get (i : Nat) : h0.get i = .none := get_tab4 _ i
end Go.Px
end
section
namespace Go.Px
def FzW (F : Nat → List Value) (w : World) : Prop := ∀ B j x, (F B)[j]? = some x → w.cell? ⟨B, j, none⟩ = some x
def fzm (F : Nat → List Value) : Map := ⟨fun _ => none, F, fun _ _ => none⟩
structure Gho (P : Program) where
 n0 : Nat
 J : Nat → (Nat → Prop) → (Nat → List Value) → World → Prop
 stab : ∀ k S F w w', J k S F w → Same w w' → (∀ b, b < w.heap.size → (S b ∨ b < n0 ∨ F b ≠ []) → w'.heap[b]? = w.heap[b]?) → J k S F w'
 blk : Nat
 items : List (List AV)
 step : ∀ k S w v V (F F' : Nat → List Value), items[k]? = some v → J k S F w → n0 ≤ w.heap.size → (∀ b, S b → b < w.heap.size) → (∀ b, S b ∨ b < n0 → F' b = F b) → (∀ (b i : Nat) (x : Value), (F b)[i]? = some x → (F' b)[i]? = some x) → FzW F' w → VRs (fzm F') v V →
  ∃ nx w1, (Instr.yield blk V.toArray).run P w = .ok nx w1 ∧ NextOk P (fun z w' => Same w w' ∧ (∀ b, b < w.heap.size → ¬ S b → w'.heap[b]? = w.heap[b]?) ∧ FzW F' w' ∧
   ∃ S', (∀ b, S b → S' b) ∧ (∀ b, S' b → b < w'.heap.size ∧ (S b ∨ w.heap.size ≤ b)) ∧ ((z = .bool true ∧ J (k + 1) S' F' w') ∨ (z = .bool false ∧ J (items.length + 1) S' F' w'))) nx w1
structure Cx where
 c : Ctx
 w0 : World
 F0 : Nat → List Value
 opn : Nat → Prop
 g : Option (Gho c.P)
 ro : Option Nat
 hid : List Nat
 gv : List AV := []
 gx : List Value := []
def RoX (X : Cx) (ρ : Map) (rd ro : Option Nat) : Prop :=
 match rd with
 | none => ro = X.ro
 | some l => ∃ B N, ρ l = some (B, N) ∧ ro = some B
theorem RoX.mono {X : Cx} {ρ σ : Map} {rd ro : Option Nat} (h : RoX X ρ rd ro) (s : Sub ρ σ) : RoX X σ rd ro := by
 cases rd with
 | none => exact h
 | some l => obtain ⟨B, N, a, b⟩ := h; exact ⟨B, N, s _ _ a, b⟩
def colD (B : Nat) : Deferred := { target := .collected B, args := #[] }
def MRX (X : Cx) (ρ : Map) (m : List Nat) (D : List Deferred) : Prop := ∃ D1, MR ρ m D1 ∧ D = D1 ++ X.hid.map colD
theorem MRX.mono {X : Cx} {ρ σ : Map} {m : List Nat} {D : List Deferred} (h : MRX X ρ m D) (s : Sub ρ σ) : MRX X σ m D := let ⟨D1, a, b⟩ := h; ⟨D1, a.mono s, b⟩
theorem MRX.nil {X : Cx} {ρ : Map} {m : List Nat} {D : List Deferred} (h : MRX X ρ m D) (e : X.hid = []) : MR ρ m D := by
 obtain ⟨D1, a, b⟩ := h
 rw [e] at b
 simp at b
 rw [b]; exact a
theorem MRX.push {X : Cx} {ρ : Map} {m m' : List Nat} {D D' : List Deferred} (h : MR ρ m D) (k : MRX X ρ m' D') : MRX X ρ (m ++ m') (D ++ D') := by
 obtain ⟨D1, a, b⟩ := k
 exact ⟨D ++ D1, h.append a, by rw [b, List.append_assoc]⟩
def Cx.shut (X : Cx) (b : Nat) : Prop := b < X.w0.heap.size ∧ ¬ X.opn b
def GhP (X : Cx) (ρ : Map) (h : Heap) (w : World) : Prop := ∀ G, X.g = some G → ∀ t z n l, h.get 0 = .arr t z n l → ∃ S Fo, G.J z S Fo w ∧ (∀ b, S b → b < w.heap.size) ∧ (∀ i B N, ρ i = some (B, N) → h.ok i → ¬ S B ∧ G.n0 ≤ B) ∧ ((∀ b, S b ∨ b < G.n0 → ρ.F b = Fo b) ∧ ∀ (b i : Nat) (x : Value), (Fo b)[i]? = some x → (ρ.F b)[i]? = some x) ∧ G.n0 ≤ w.heap.size ∧ S G.blk ∧ (∃ N, ρ 1 = some (G.blk, N)) ∧ (∀ b, S b → ¬ X.shut b) ∧ ∃ a, ρ.V 0 0 = some (.slice a 0 0)
structure PI (X : Cx) (ρ : Map) (h : Heap) (w : World) : Prop where
 hr : HR ρ h w
 wf : WF h
 fr : FreeUp X.c ρ h
 vf : ∀ i, h.nxt ≤ i → ∀ n, ρ.V i n = none
 vu : ∀ i t z n l, h.get i = .arr t z n l → ∀ m, n < m → ρ.V i m = none
 ext : Same X.w0 w ∧ ∀ b, X.shut b → w.heap[b]? = X.w0.heap[b]?
 mine : ∀ i B N, ρ i = some (B, N) → ¬ X.shut B
 sub : ∀ (b j : Nat) (x : Value), (X.F0 b)[j]? = some x → (ρ.F b)[j]? = some x
 old : ∀ b, X.shut b → ρ.F b = X.F0 b
 keep : VRs ρ X.gv X.gx
 gh : GhP X ρ h w
theorem GhP.go {X : Cx} {ρ ρ' : Map} {h h' : Heap} {w w' : World} (p : GhP X ρ h w) (ha : ∀ t z n l, h'.get 0 = .arr t z n l → ∃ t' n' l', h.get 0 = .arr t' z n' l') (hs : Same w w') (hf : ∀ b, b < w.heap.size → (∀ i N, ρ i = some (b, N) → ¬ h.ok i) → w'.heap[b]? = w.heap[b]?)
  (hd : ∀ i B N, ρ' i = some (B, N) → h'.ok i → w.heap.size ≤ B ∨ ∃ j M, ρ j = some (B, M) ∧ h.ok j) (hF : ∀ b, b < w.heap.size → (∀ i N, ρ i = some (b, N) → ¬ h.ok i) → ρ'.F b = ρ.F b) (h1 : ∀ B N, ρ 1 = some (B, N) → (∃ M, ρ' 1 = some (B, M)) ∨ h.ok 1) (hf' : ∀ b, ρ.F b ≠ [] → w'.heap[b]? = w.heap[b]?) (hm : ∀ (b i : Nat) (x : Value), (ρ.F b)[i]? = some x → (ρ'.F b)[i]? = some x) (hV0 : ∀ v, ρ.V 0 0 = some v → ρ'.V 0 0 = some v) : GhP X ρ' h' w' := by
 intro G hG t z n l e
 obtain ⟨t', n', l', e'⟩ := ha t z n l e
 obtain ⟨S, Fo, s1, s2, s3, s4, s5, s6, ⟨N1, s7⟩, s8, a9, s9⟩ := p G hG t' z n' l' e'
 have hlt : ∀ b, S b ∨ b < G.n0 → b < w.heap.size := fun b q => q.elim (s2 b) fun q => Nat.lt_of_lt_of_le q s5
 have hno : ∀ b, S b ∨ b < G.n0 → ∀ i N, ρ i = some (b, N) → ¬ h.ok i := fun b q i N e o => by
  obtain ⟨a1, a2⟩ := s3 i b N e o
  rcases q with q | q
  ·exact a1 q
  ·omega
 refine ⟨S, Fo, G.stab z S Fo w w' s1 hs (fun b _ q => ?_), fun b q => Nat.lt_of_lt_of_le (s2 b q) hs.size, fun i B N e o => ?_, ⟨fun b q => (hF b (hlt b q) (hno b q)).trans (s4.1 b q), fun b i x e => hm b i x (s4.2 b i x e)⟩, Nat.le_trans s5 hs.size, s6, ?_, s8, a9, hV0 _ s9⟩
 ·rcases q with q | q | q
  ·exact hf b (hlt b (.inl q)) (hno b (.inl q))
  ·exact hf b (hlt b (.inr q)) (hno b (.inr q))
  ·refine hf' b fun e => q ?_
   cases hl : Fo b with
   | nil => rfl
   | cons x r =>
    have := s4.2 b 0 x (by rw [hl]; rfl)
    rw [e] at this; simp at this
 ·rcases hd i B N e o with q | ⟨j, M, q1, q2⟩
  ·exact ⟨fun q' => by have := s2 B q'; omega, by omega⟩
  ·exact s3 j B M q1 q2
 ·rcases h1 G.blk N1 s7 with q | q
  ·exact q
  ·exact absurd s6 (s3 1 G.blk N1 s7 q).1
def ArrKeep (h h' : Heap) : Prop := ∀ i t z n l, h'.get i = .arr t z n l → ∃ l', h.get i = .arr t z n l'
theorem PI.good {X : Cx} {ρ ρ' : Map} {h h' : Heap} {w w' : World} (p : PI X ρ h w) (g : Good ρ h w ρ' h' w') (ha : ArrKeep h h') : PI X ρ' h' w' := by
 have hnt : ∀ b, X.shut b → ∀ i N, ρ i = some (b, N) → ¬ h.ok i := fun b hb i N e _ => p.mine i b N e hb
 refine ⟨g.hr, g.wf, g.up p.fr, fun i hi n => ?_, fun i t z n l e m hm => ?_, ⟨p.ext.1.trans g.same, fun b hb => ?_⟩, fun i B N e => ?_, fun b j x e => g.sub.F b j x (p.sub b j x e), fun b hb => ?_, p.keep.mono g.sub, p.gh.go (fun t z n l q => by obtain ⟨l', e'⟩ := ha 0 t z n l q; exact ⟨_, _, _, e'⟩) g.same g.frame (fun i B N e o => ?_) g.fold (fun B N e => .inl ⟨N, g.sub 1 _ e⟩) (fun b e => ?_) g.sub.F (fun v e => g.sub.V _ _ _ e)⟩
 ·rw [g.V]; exact p.vf i (Nat.le_trans g.nxt hi) n
 ·obtain ⟨l', e'⟩ := ha i t z n l e
  rw [g.V]; exact p.vu i t z n l' e' m hm
 ·rw [g.frame b (Nat.lt_of_lt_of_le hb.1 p.ext.1.size) (hnt b hb)]; exact p.ext.2 b hb
 ·cases hc : ρ i with
  | none =>
   rcases g.newb i B N e hc with q | ⟨j, M, q, _⟩
   ·exact fun hs => by have := hs.1; have := p.ext.1.size; omega
   ·exact p.mine j B M q
  | some q =>
   have := g.sub i q hc
   rw [e] at this; cases this
   exact p.mine i B N hc
 ·rw [g.fold b (Nat.lt_of_lt_of_le hb.1 p.ext.1.size) (hnt b hb)]; exact p.old b hb
 ·cases hc : ρ i with
  | none => exact g.newb i B N e hc
  | some q =>
   have := g.sub i q hc
   rw [e] at this; cases this
   by_cases ho : h.ok i
   ·exact .inr ⟨i, N, hc, ho⟩
   ·exact absurd o (g.dead i (fun hh => by rw [g.free i hh.1 hh.2] at hc; cases hc) ho)
 ·by_cases hi : ∃ i N, ρ i = some (b, N) ∧ h.ok i
  ·obtain ⟨i, N, e1, e2⟩ := hi
   rcases p.hr.sep i b N e1 e2 with q | ⟨r, q⟩
   ·exact absurd q e
   ·obtain ⟨M, hM⟩ := p.hr.gl i r q
    rw [e1] at hM; cases hM
    exact g.glw _ r q
  ·exact g.frame b (p.hr.F_lt e) fun i N e1 e2 => hi ⟨i, N, e1, e2⟩
abbrev Post := Ex → St → Prop
def Tri (X : Cx) (sz : Nat) (rd : Option Nat) (code : Code) (s : St) (Q : Post) : Prop :=
 ∀ (ro : Option Nat) (ρ : Map) (w : World) (a : Act) (Q' : Exit → Act → World → Prop), RoX X ρ rd ro → PI X ρ s.h w → ER ρ s.e a.tmps sz → MRX X ρ s.m a.defers →
  (∀ x s' a' w' ρ', Q x s' → RoX X ρ' rd ro → PI X ρ' s'.h w' → ER ρ' s'.e a'.tmps sz → MRX X ρ' s'.m a'.defers → Q' (exitOf x) a' w') → code.wpIn (wideR ro) 0 X.c.P Q' a w
def LoopIn (X : Cx) (sz : Nat) (rd : Option Nat) (c : Code) (s : St) (Q : Post) : Prop :=
 ∀ (ro : Option Nat) (ρ : Map) (w : World) (a : Act) (Q' : Exit → Act → World → Prop), RoX X ρ rd ro → PI X ρ s.h w → ER ρ s.e a.tmps sz → MRX X ρ s.m a.defers →
  (∀ x s' a' w' ρ', Q x s' → RoX X ρ' rd ro → PI X ρ' s'.h w' → ER ρ' s'.e a'.tmps sz → MRX X ρ' s'.m a'.defers → Q' (exitOf x) a' w') →
  ∀ (b : Frame) (kk : List Item) (cs : List Frame), b.roundOf = (wideR ro).round → (wideR ro).fn b.fn → (wideR ro).room (cs.length + 1 + 0) → ∃ e a'' w'', Q' e a'' w'' ∧ ArrivesIn (Machine.fenced X.c.P (wideR ro)) X.c.P (lone (b.atR a (.code c :: .inLoop c :: kk)) cs w) b kk cs e a'' w''
section
variable {X : Cx} {sz : Nat} {rd : Option Nat} {s : St} {Q : Post}
theorem Tri.mono {code : Code} {Q1 : Post} (h : Tri X sz rd code s Q1) (k : ∀ x s', Q1 x s' → Q x s') : Tri X sz rd code s Q :=
 fun ro ρ w a Q' h1 h2 h3 h4 h5 => h ro ρ w a Q' h1 h2 h3 h4 fun x s' a' w' ρ' q => h5 x s' a' w' ρ' (k x s' q)
theorem Tri.skip (h : Q .normal s) : Tri X sz rd .skip s Q := fun ro ρ w a Q' h1 h2 h3 h4 h5 => wpIn_skip (h5 _ _ _ _ _ h h1 h2 h3 h4)
theorem Tri.label {l : Nat} (h : Q .normal s) : Tri X sz rd (.label l) s Q := fun ro ρ w a Q' h1 h2 h3 h4 h5 => wpIn_label (h5 _ _ _ _ _ h h1 h2 h3 h4)
theorem Tri.exit {id : Nat} (h : Q (.exit id) s) : Tri X sz rd (.exit id) s Q := fun ro ρ w a Q' h1 h2 h3 h4 h5 => wpIn_exit (h5 _ _ _ _ _ h h1 h2 h3 h4)
theorem Tri.ret (h : Q .ret s) : Tri X sz rd .ret s Q := fun ro ρ w a Q' h1 h2 h3 h4 h5 => wpIn_ret (h5 _ _ _ _ _ h h1 h2 h3 h4)
theorem Tri.scope {c : Code} (h : Tri X sz rd c s Q) : Tri X sz rd (.scope c) s Q := fun ro ρ w a Q' h1 h2 h3 h4 h5 =>
 wpIn_scope (h ro ρ w a _ h1 h2 h3 h4 fun x s' a' w' ρ' q g1 g2 g3 g4 => by cases x <;> exact h5 _ s' a' w' ρ' q g1 g2 g3 g4)
theorem Tri.seq {c d : Code} (h : Tri X sz rd c s (fun x s' => match x with | .normal => Tri X sz rd d s' Q | x => Q x s')) : Tri X sz rd (.seq c d) s Q := fun ro ρ w a Q' h1 h2 h3 h4 h5 =>
 wpIn_seq (h ro ρ w a _ h1 h2 h3 h4 fun x s' a' w' ρ' q g1 g2 g3 g4 => by
  cases x with
  | normal => exact q ro ρ' w' a' Q' g1 g2 g3 g4 h5
  | exit id => exact h5 _ s' a' w' ρ' q g1 g2 g3 g4
  | ret => exact h5 _ s' a' w' ρ' q g1 g2 g3 g4)
theorem Tri.cond {x : Operand} {c d : Code} {b : Bool} (hb : ev s.e x = .bool b) (h1 : b = true → Tri X sz rd c s Q) (h2 : b = false → Tri X sz rd d s Q) : Tri X sz rd (.cond x c d) s Q := fun ro ρ w a Q' g1 g2 g3 g4 g5 => by
 have hv := ev_ok g3 x
 rw [hb] at hv
 simp only [VR] at hv
 refine wpIn_cond hv ?_
 cases b with
 | true => exact h1 rfl ro ρ w a Q' g1 g2 g3 g4 g5
 | false => exact h2 rfl ro ρ w a Q' g1 g2 g3 g4 g5
theorem Tri.block {id : Nat} {c : Code} (h : Tri X sz rd c s (fun x s' => match x with | .exit i => (match Nat.beq i id with | true => Q .normal s' | false => Q (.exit i) s') | x => Q x s')) : Tri X sz rd (.block id c) s Q := fun ro ρ w a Q' h1 h2 h3 h4 h5 =>
 wpIn_block (h ro ρ w a _ h1 h2 h3 h4 fun x s' a' w' ρ' q g1 g2 g3 g4 => by
  cases x with
  | normal => exact h5 _ s' a' w' ρ' q g1 g2 g3 g4
  | ret => exact h5 _ s' a' w' ρ' q g1 g2 g3 g4
  | exit i =>
   simp only [exitOf, Exit.inBlock]
   cases hi : Nat.beq i id with
   | true =>
    rw [if_pos (beqT hi)]
    simp only [hi] at q
    exact h5 _ s' a' w' ρ' q g1 g2 g3 g4
   | false =>
    rw [if_neg (beqN hi)]
    simp only [hi] at q
    exact h5 _ s' a' w' ρ' q g1 g2 g3 g4)
theorem LoopIn.next {c : Code} (h : Tri X sz rd c s (fun x s' => match x with | .normal => LoopIn X sz rd c s' Q | x => Q x s')) : LoopIn X sz rd c s Q := fun ro ρ w a Q' h1 h2 h3 h4 h5 => by
 intro b kk cs hro hb hroom
 have key := h ro ρ w a (fun e a' w' => match e with
   | .normal => ∀ (b : Frame) (kk : List Item) (cs : List Frame), b.roundOf = (wideR ro).round → (wideR ro).fn b.fn → (wideR ro).room (cs.length + 1 + 0) → ∃ e a'' w'', Q' e a'' w'' ∧ ArrivesIn (Machine.fenced X.c.P (wideR ro)) X.c.P (lone (b.atR a' (.code c :: .inLoop c :: kk)) cs w') b kk cs e a'' w''
   | e => (∃ x, e = exitOf x ∧ x ≠ .normal) ∧ Q' e a' w') h1 h2 h3 h4 fun x s' a' w' ρ' q g1 g2 g3 g4 => by
  cases x with
  | normal => exact fun b kk cs x1 x2 x3 => q ro ρ' w' a' Q' g1 g2 g3 g4 h5 b kk cs x1 x2 x3
  | exit id => exact ⟨⟨.exit id, rfl, by simp⟩, h5 _ s' a' w' ρ' q g1 g2 g3 g4⟩
  | ret => exact ⟨⟨.ret, rfl, by simp⟩, h5 _ s' a' w' ρ' q g1 g2 g3 g4⟩
 obtain ⟨e, a₁, w₁, hq, harr⟩ := key b (.inLoop c :: kk) cs hro hb hroom
 cases e with
 | normal =>
  obtain ⟨e₂, a₂, w₂, hq₂, harr₂⟩ := hq b kk cs hro hb hroom
  exact ⟨e₂, a₂, w₂, hq₂, .of_steps (StepsIn.trans harr (.one (fenced_calm hb hroom rfl) stepR_inLoop)) harr₂⟩
 | exit id => exact ⟨_, a₁, w₁, hq.2, .pass (x := .inLoop c) rfl (fun _ _ => .inl (by simp)) harr⟩
 | ret => exact ⟨_, a₁, w₁, hq.2, .pass (x := .inLoop c) rfl (fun _ _ => .inl (by simp)) harr⟩
 | goto l => obtain ⟨x, hx, _⟩ := hq.1; cases x <;> cases hx
 | panic ch => obtain ⟨x, hx, _⟩ := hq.1; cases x <;> cases hx
 | outgrown => obtain ⟨x, hx, _⟩ := hq.1; cases x <;> cases hx
theorem Tri.loop {c : Code} (h : LoopIn X sz rd c s Q) : Tri X sz rd (.loop c) s Q := fun ro ρ w a Q' h1 h2 h3 h4 h5 => by
 intro b kk cs hro hb hroom
 obtain ⟨e, a', w', hq, harr⟩ := h ro ρ w a Q' h1 h2 h3 h4 h5 b kk cs hro hb hroom
 exact ⟨e, a', w', hq, .of_steps (.one (fenced_calm hb hroom rfl) stepR_loop) harr⟩
end
/-! ## what is still to be gone through -/
inductive It where
 | code (c : Code)
 | blk (id : Nat)
 | lp (c : Code)
def RunK (X : Cx) (sz : Nat) (rd : Option Nat) : List It → Post → Post
 | [], Q, x, s => Q x s
 | .code c :: k, Q, x, s => match x with | .normal => Tri X sz rd c s (RunK X sz rd k Q) | x => RunK X sz rd k Q x s
 | .blk id :: k, Q, x, s => match x with | .exit i => (match Nat.beq i id with | true => RunK X sz rd k Q .normal s | false => RunK X sz rd k Q (.exit i) s) | x => RunK X sz rd k Q x s
 | .lp c :: k, Q, x, s => match x with | .normal => LoopIn X sz rd c s (RunK X sz rd k Q) | x => RunK X sz rd k Q x s
/-! ## slots -/
def lkO (L : List (Nat × AV)) (t : Nat) : Option AV :=
 match L with
 | [] => none
 | (s, v) :: r => (match Nat.beq t s with | true => some v | false => lkO r t)
def Has (e : T AV) (L : List (Nat × AV)) : Prop := ∀ t v, lkO L t = some v → e.get und t = v
def evL (L : List (Nat × AV)) (x : Operand) : Option AV :=
 match x with
 | .tmp t => lkO L t
 | .const v => some (ofV v)
 | .global g => some (.gptr g 0)
 | .func f => some (.fn (.func f) [] [])
def evsL (L : List (Nat × AV)) (l : List Operand) : Option (List AV) :=
 match l with
 | [] => some []
 | x :: r => (match evL L x with | some v => (match evsL L r with | some vs => some (v :: vs) | none => none) | none => none)
theorem Has.ev {e : T AV} {L : List (Nat × AV)} (h : Has e L) {x : Operand} {v : AV} (k : evL L x = some v) : Px.ev e x = v := by
 cases x with
 | tmp t => exact h t v k
 | const u => cases k; rfl
 | global g => cases k; rfl
 | func f => cases k; rfl
theorem Has.evs {e : T AV} {L : List (Nat × AV)} (h : Has e L) : ∀ {l : List Operand} {vs : List AV}, evsL L l = some vs → l.map (Px.ev e) = vs
 | [], vs, k => by cases k; rfl
 | x :: r, vs, k => by
  unfold evsL at k
  split at k
  ·rename_i v hv
   split at k
   ·rename_i us hu
    cases k
    simp only [List.map_cons]
    rw [h.ev hv, h.evs hu]
   ·cases k
  ·cases k
theorem Has.set {e : T AV} {L : List (Nat × AV)} (h : Has e L) (d : Nat) (v : AV) : Has (e.set und d v) ((d, v) :: L) := fun t u k => by
 rw [get_set]
 unfold lkO at k
 by_cases ht : t = d
 ·subst ht
  rw [if_pos rfl]
  simp only [Nat.beq_refl] at k
  cases k; rfl
 ·rw [if_neg ht]
  simp only [beqF ht] at k
  exact h t u k
def SubL (L : List (Nat × AV)) : List (Nat × AV) → Prop
 | [] => True
 | (s, v) :: r => lkO L s = some v ∧ SubL L r
theorem SubL.lk {L : List (Nat × AV)} : ∀ {M : List (Nat × AV)}, SubL L M → ∀ {t v}, lkO M t = some v → lkO L t = some v
 | [], _, t, v, k => by cases k
 | (s, u) :: r, h, t, v, k => by
  unfold lkO at k
  split at k
  ·rename_i ht
   cases k
   rw [beqT ht]; exact h.1
  ·exact SubL.lk h.2 k
theorem Has.sub {e : T AV} {L M : List (Nat × AV)} (h : Has e L) (k : SubL L M) : Has e M := fun t v q => h t v (k.lk q)
structure Go (X : Cx) (sz : Nat) (rd : Option Nat) (k : List It) (L : List (Nat × AV)) (h : Heap) (m : List Nat) (Q : Post) : Prop where
 run : ∀ e, Has e L → RunK X sz rd k Q .normal ⟨e, h, m⟩
section
variable {X : Cx} {sz : Nat} {rd : Option Nat} {k : List It} {L : List (Nat × AV)} {h : Heap} {m : List Nat} {Q : Post}
theorem Go.sub {M : List (Nat × AV)} (hs : SubL L M) (g : Go X sz rd k M h m Q) : Go X sz rd k L h m Q := ⟨fun e he => g.run e (he.sub hs)⟩
theorem Go.skip (g : Go X sz rd k L h m Q) : Go X sz rd (.code .skip :: k) L h m Q := ⟨fun e he => Tri.skip (g.run e he)⟩
theorem Go.label {l : Nat} (g : Go X sz rd k L h m Q) : Go X sz rd (.code (.label l) :: k) L h m Q := ⟨fun e he => Tri.label (g.run e he)⟩
theorem Go.scope {c : Code} (g : Go X sz rd (.code c :: k) L h m Q) : Go X sz rd (.code (.scope c) :: k) L h m Q := ⟨fun e he => Tri.scope (g.run e he)⟩
theorem Go.seq {c d : Code} (g : Go X sz rd (.code c :: .code d :: k) L h m Q) : Go X sz rd (.code (.seq c d) :: k) L h m Q := ⟨fun e he =>
 Tri.seq ((show Tri X sz rd c ⟨e, h, m⟩ (RunK X sz rd (.code d :: k) Q) from g.run e he).mono fun x s' q => by cases x <;> exact q)⟩
theorem Go.cond {x : Operand} {c d : Code} {b : Bool} (hb : evL L x = some (.bool b)) (g1 : b = true → Go X sz rd (.code c :: k) L h m Q) (g2 : b = false → Go X sz rd (.code d :: k) L h m Q) : Go X sz rd (.code (.cond x c d) :: k) L h m Q := ⟨fun e he =>
 Tri.cond (he.ev hb) (fun q => (g1 q).run e he) (fun q => (g2 q).run e he)⟩
theorem Go.block {id : Nat} {c : Code} (g : Go X sz rd (.code c :: .blk id :: k) L h m Q) : Go X sz rd (.code (.block id c) :: k) L h m Q := ⟨fun e he =>
 Tri.block ((show Tri X sz rd c ⟨e, h, m⟩ (RunK X sz rd (.blk id :: k) Q) from g.run e he).mono fun x s' q => by cases x <;> exact q)⟩
theorem Go.unblk {id : Nat} (g : Go X sz rd k L h m Q) : Go X sz rd (.blk id :: k) L h m Q := ⟨g.run⟩
theorem Go.loop1 {c : Code} (g : Go X sz rd (.lp c :: k) L h m Q) : Go X sz rd (.code (.loop c) :: k) L h m Q := ⟨fun e he => Tri.loop (g.run e he)⟩
theorem Go.round {c : Code} (g : Go X sz rd (.code c :: .lp c :: k) L h m Q) : Go X sz rd (.lp c :: k) L h m Q := ⟨fun e he =>
 LoopIn.next ((show Tri X sz rd c ⟨e, h, m⟩ (RunK X sz rd (.lp c :: k) Q) from g.run e he).mono fun x s' q => by cases x <;> exact q)⟩
theorem Go.loop {σ : Type} (S : σ → List (Nat × AV)) (H : σ → Heap) (P : σ → Prop) (M : σ → Nat) {c : Code} (s0 : σ) (hP : P s0) (hS : SubL L (S s0)) (hH : h = H s0)
  (body : ∀ s, P s → (∀ s', P s' → M s' < M s → Go X sz rd (.lp c :: k) (S s') (H s') m Q) → Go X sz rd (.code c :: .lp c :: k) (S s) (H s) m Q) : Go X sz rd (.code (.loop c) :: k) L h m Q := by
 subst hH
 refine Go.loop1 (Go.sub hS ?_)
 have key : ∀ n s, M s = n → P s → Go X sz rd (.lp c :: k) (S s) (H s) m Q := by
  intro n
  induction n using Nat.strongRecOn with
  | ind n ih =>
   intro s hn hs
   exact Go.round (body s hs fun s' hs' hlt => ih (M s') (by omega) s' rfl hs')
 exact key _ s0 rfl hP
def xit (id : Nat) : List It → Option (List It)
 | [] => none
 | .blk i :: k => (match Nat.beq id i with | true => some k | false => xit id k)
 | _ :: k => xit id k
theorem xit_run {id : Nat} {s : St} : ∀ {k k' : List It}, xit id k = some k' → RunK X sz rd k' Q .normal s → RunK X sz rd k Q (.exit id) s
 | .blk i :: k, k', e, r => by
  unfold xit at e
  rw [show RunK X sz rd (.blk i :: k) Q (.exit id) s = (match Nat.beq id i with | true => RunK X sz rd k Q .normal s | false => RunK X sz rd k Q (.exit id) s) from rfl]
  split at e
  ·cases e; exact r
  ·exact xit_run e r
 | .code c :: k, k', e, r => xit_run (k := k) e r
 | .lp c :: k, k', e, r => xit_run (k := k) e r
theorem ret_run {s : St} : ∀ {k : List It}, Q .ret s → RunK X sz rd k Q .ret s
 | [], q => q
 | .blk i :: k, q => ret_run (k := k) q
 | .code c :: k, q => ret_run (k := k) q
 | .lp c :: k, q => ret_run (k := k) q
theorem Go.exit {id : Nat} {k' : List It} (hx : xit id k = some k') (g : Go X sz rd k' L h m Q) : Go X sz rd (.code (.exit id) :: k) L h m Q := ⟨fun e he => Tri.exit (xit_run hx (g.run e he))⟩
theorem Go.ret (g : ∀ e, Has e L → Q .ret ⟨e, h, m⟩) : Go X sz rd (.code .ret :: k) L h m Q := ⟨fun e he => Tri.ret (ret_run (g e he))⟩
theorem Go.nil (g : ∀ e, Has e L → Q .normal ⟨e, h, m⟩) : Go X sz rd [] L h m Q := ⟨g⟩
end
end Go.Px
end
section
namespace Go.Px
/-! ## operations -/
def OpT (X : Cx) (sz : Nat) (rd : Option Nat) (o : Oper) (s : St) (K : AV → St → Prop) : Prop :=
 ∀ (ro : Option Nat) (ρ : Map) (w : World) (a : Act) (next : Act → World → Prop) (Q' : Exit → Act → World → Prop), RoX X ρ rd ro → PI X ρ s.h w → ER ρ s.e a.tmps sz → MRX X ρ s.m a.defers →
  (∀ v s' z w' ρ', K v s' → RoX X ρ' rd ro → PI X ρ' s'.h w' → ER ρ' s'.e a.tmps sz → MRX X ρ' s'.m a.defers → VR ρ' v z → next (a.put o.dst z) w') → o.wpIn (wideR ro) 0 X.c.P a w next Q'
def TriOps (X : Cx) (sz : Nat) (rd : Option Nat) (all : Array Oper) (rest : List Oper) (s : St) (K : St → Prop) : Prop :=
 ∀ (is : List Nat), is.map (fun i => all[i]?) = rest.map some → ∀ (ro : Option Nat) (ρ : Map) (w : World) (a : Act) (Q' : Exit → Act → World → Prop), RoX X ρ rd ro → PI X ρ s.h w → ER ρ s.e a.tmps sz → MRX X ρ s.m a.defers →
  (∀ s' a' w' ρ', K s' → RoX X ρ' rd ro → PI X ρ' s'.h w' → ER ρ' s'.e a'.tmps sz → MRX X ρ' s'.m a'.defers → Q' .normal a' w') → wpOpsIn (wideR ro) 0 X.c.P all Q' is a w
section
variable {X : Cx} {sz : Nat} {rd : Option Nat} {s : St}
theorem Tri.region {id : Nat} {ops : Array Oper} {Q : Post} (h : TriOps X sz rd ops ops.toList s (fun s' => Q .normal s')) : Tri X sz rd (.region id ops false) s Q := fun ro ρ w a Q' h1 h2 h3 h4 h5 => by
 refine wpIn_region (h (List.range ops.size) ?_ ro ρ w a Q' h1 h2 h3 h4 fun s' a' w' ρ' q g1 g2 g3 g4 => h5 .normal s' a' w' ρ' q g1 g2 g3 g4)
 apply List.ext_getElem?
 intro i
 simp only [List.getElem?_map]
 by_cases hi : i < ops.size
 ·simp [hi]
 ·simp [hi]
theorem TriOps.nil {all : Array Oper} {K : St → Prop} (h : K s) : TriOps X sz rd all [] s K := fun is his ro ρ w a Q' h1 h2 h3 h4 h5 => by
 cases is with
 | nil => exact h5 s a w ρ h h1 h2 h3 h4
 | cons i is => simp at his
theorem TriOps.cons {all : Array Oper} {o : Oper} {rest : List Oper} {K : St → Prop} (hw : wantA all.toList s.e o = some true)
  (h : OpT X sz rd o s (fun v s' => ∃ e', setD s'.e o.dst v sz s'.h = .ok e' s'.h ∧ TriOps X sz rd all rest ⟨e', s'.h, s'.m⟩ K)) : TriOps X sz rd all (o :: rest) s K := fun is his ro ρ w a Q' h1 h2 h3 h4 h5 => by
 cases is with
 | nil => simp at his
 | cons i is =>
  simp only [List.map_cons, List.cons.injEq] at his
  rw [wpOpsIn_cons]
  unfold wpOpIn
  rw [his.1]
  simp only []
  rw [if_pos (wantA_ok h3 hw)]
  refine h ro ρ w a _ Q' h1 h2 h3 h4 fun v s' z w' ρ' ⟨e', k1, k2⟩ g1 g2 g3 g4 g5 => ?_
  obtain ⟨_, q2, q3⟩ := setD_ok g3 g5 k1
  exact k2 is his.2 ro ρ' w' _ Q' g1 g2 q2 (by rw [q3]; exact g4) h5
theorem TriOps.skip {all : Array Oper} {o : Oper} {rest : List Oper} {K : St → Prop} (hw : wantA all.toList s.e o = some false) {e' : T AV} (hs : setD s.e o.dst und sz s.h = .ok e' s.h)
  (h : TriOps X sz rd all rest ⟨e', s.h, s.m⟩ K) : TriOps X sz rd all (o :: rest) s K := fun is his ro ρ w a Q' h1 h2 h3 h4 h5 => by
 cases is with
 | nil => simp at his
 | cons i is =>
  simp only [List.map_cons, List.cons.injEq] at his
  rw [wpOpsIn_cons]
  unfold wpOpIn
  rw [his.1]
  simp only []
  rw [if_neg (by rw [wantA_ok h3 hw]; simp)]
  refine ⟨fun _ _ => trivial, ?_⟩
  obtain ⟨_, q2, q3⟩ := setD_ok h3 (und_ok ρ) hs
  exact h is his.2 ro ρ w _ Q' h1 h2 q2 (by rw [q3]; exact h4) h5
theorem OpT.opA (k : CtxOk X.c) {o : Oper} {v : AV} {h' : Heap} {K : AV → St → Prop} (ho : opA X.c s.e s.h o.op = some (.v v h')) (ha : ArrKeep s.h h') (hK : K v ⟨s.e, h', s.m⟩) : OpT X sz rd o s K := fun ro ρ w a next Q' h1 h2 h3 h4 h5 => by
 have hap : AppOk X.c noApp := noApp_ok X.c
 refine opR_ok k hap h2.hr h2.wf h2.fr h3 (v := v) (h' := h') (by unfold opR; rw [ho]) fun z w' ρ' g hz => ?_
 exact h5 v ⟨s.e, h', s.m⟩ z w' ρ' hK (h1.mono g.sub) (h2.good g ha) (h3.mono g.sub) (h4.mono g.sub) hz
end
/-! ## contracts -/
def KOk (c : Ctx) (f : FuncId) (args : List AV) (v : AV) : Prop :=
 ∀ (F : Nat → List Value) (w : World) (A : List Value), FzW F w → VRs (fzm F) args A →
  ∃ nx w1, (callFunc f A.toArray).run c.P w = .ok nx w1 ∧ NextOk c.P (fun z w' => ExtW w w' ∧ ∃ F', (∀ (b j : Nat) (x : Value), (F b)[j]? = some x → (F' b)[j]? = some x) ∧ (∀ b, b < w.heap.size → F' b = F b) ∧ FzW F' w' ∧ VR (fzm F') v z) nx w1
section
variable {X : Cx} {sz : Nat} {rd : Option Nat} {s : St}
theorem PI.frz {ρ : Map} {h : Heap} {w w' : World} (p : PI X ρ h w) (e : ExtW w w') {F : Nat → List Value} (h1 : ∀ (b j : Nat) (x : Value), (ρ.F b)[j]? = some x → (F b)[j]? = some x) (h2 : ∀ b, b < w.heap.size → F b = ρ.F b) (h3 : FzW F w') :
  PI X ⟨ρ.m, F, ρ.V⟩ h w' :=
 p.good ((Good.refl p.hr p.wf).frz e.1 e.2 h1 h2 h3) fun i t z n l q => ⟨l, q⟩
theorem OpT.call (k : CtxOk X.c) {o : Oper} {cl : Call} {f : Operand} {g : FuncId} {vs : List AV} {v : AV} {K : AV → St → Prop} (ho : o.op = .call cl) (hc : cl.callee = .value f) (hf : ev s.e f = .fn (.func g) [] [])
  (hv : cl.args.toList.map (ev s.e) = vs) (hd : datsB vs = true) (hk : KOk X.c g vs v) (hK : K v s) : OpT X sz rd o s K := fun ro ρ w a next Q' h1 h2 h3 h4 h5 => by
 refine ⟨fun _ _ => trivial, ?_⟩
 rw [show (wideR ro).round = ro from rfl, Oper.semAt_eq ro a.eval o (by rw [ho]; intro d q; cases q)]
 have hfv := ev_ok h3 f
 rw [hf] at hfv
 simp only [VR, VRs, FR] at hfv
 obtain ⟨f', F, C, e1, rfl, rfl, e4⟩ := hfv
 subst e1
 have hargs := evs_ok h3 cl.args.toList
 rw [hv] at hargs
 obtain ⟨nx, w1, q1, q2⟩ := hk ρ.F w (cl.args.toList.map a.eval) h2.hr.fz (dats_ok vs hd hargs)
 have hrun : (execOp a.eval o).run X.c.P w = .ok nx w1 := by
  rw [← q1]
  simp only [execOp, ho, resolve, hc, e4, Deferred.ofValue, Sem.run_bind, Sem.run_pure, Result.andThen_ok, invoke]
  congr 2
  apply Array.ext'; simp
 rw [hrun]
 refine uponIn_of_next q2 fun z w' ⟨x, F', f1, f2, f3, f4⟩ => ?_
 have hs : Sub ρ ⟨ρ.m, F', ρ.V⟩ := ⟨fun _ _ e => e, f1, fun _ _ _ e => e⟩
 refine h5 v s z w' ⟨ρ.m, F', ρ.V⟩ hK (h1.mono hs) (h2.frz x f1 f2 f3) (h3.mono hs) (h4.mono hs) ?_
 exact VR.mono (ρ := fzm F') (σ := ⟨ρ.m, F', ρ.V⟩) ⟨(fun _ _ e => by cases e), fun _ _ _ e => e, (fun _ _ _ e => by cases e)⟩ v f4
end
/-! ## a function -/
theorem ArrKeep.refl (h : Heap) : ArrKeep h h := fun i t z n l e => ⟨l, e⟩
theorem ArrKeep.trans {a b d : Heap} (x : ArrKeep a b) (y : ArrKeep b d) : ArrKeep a d := fun i t z n l e => by
 obtain ⟨l', e'⟩ := y i t z n l e
 exact x i t z n l' e'
theorem ArrKeep.put {h : Heap} {i : Nat} {b : AB} (hb : b.isArr = false) : ArrKeep h (h.put i b) := fun j t z n l e => by
 rw [Heap.get_put] at e
 split at e
 ·exact absurd e (AB.noArr hb _ _ _ _)
 ·exact ⟨l, e⟩
theorem ArrKeep.new {h : Heap} {b : AB} (hb : b.isArr = false) : ArrKeep h (h.new b) := fun j t z n l e => by
 rw [Heap.get_new] at e
 split at e
 ·exact absurd e (AB.noArr hb _ _ _ _)
 ·exact ⟨l, e⟩
theorem ArrKeep.leave : ∀ {m : List Nat} {h h' : Heap}, leave h m = some h' → ArrKeep h h'
 | [], h, h', e => by cases e; exact ArrKeep.refl h
 | d :: m, h, h', e => by
  have e' : (match h.get d with
   | .dfr b => (match b with | true => Px.leave (h.put d (.dfr false)) m | false => none)
   | _ => none) = some h' := e
  split at e'
  ·split at e'
   ·exact (ArrKeep.put (b := .dfr false) rfl).trans (ArrKeep.leave e')
   ·cases e'
  ·cases e'
def argsL (l : List AV) (i : Nat) : List (Nat × AV) := match l with | [] => [] | a :: r => (i, a) :: argsL r (i + 1)
theorem argsL_has : ∀ (l : List AV) (e : T AV) (i : Nat), ∀ t v, lkO (argsL l i) t = some v → (T.put und l e i).get und t = v
 | [], e, i, t, v, h => by cases h
 | a :: r, e, i, t, v, h => by
  rw [put_cons]
  unfold argsL lkO at h
  split at h
  ·rename_i ht
   have ht := beqT ht
   cases h
   subst ht
   rw [get_put, if_neg (by omega), get_set_same]
  ·exact argsL_has r _ _ t v h
def Fin (c : Ctx) (res : List ResultVar) (v : AV) : Post := fun x s => (x = .normal ∨ x = .ret) ∧ ∃ h' vs, leave s.h s.m = some h' ∧ resA c h' s.e res = some vs ∧ one vs = v ∧ datB v = true
def hS : Heap := bare 0
theorem KOk.of {c : Ctx} (k : CtxOk c) (hg0 : ∀ i r, c.g0.get i ≠ .gl r) {f : FuncId} {fn : Func} {body : Code} (hf : c.P.funcs[f]? = some fn) (hb : fn.body = some body) {args : List AV} {v : AV} (hlen : args.length ≤ fn.ntmps)
  (H : ∀ w F, Go ⟨c, w, F, fun _ => False, none, none, [], [], []⟩ fn.ntmps none [.code body] (argsL args 0) hS [] (Fin c fn.results.toList v)) : KOk c f args v := by
 intro F w A hF hA
 have hnm : fn.name ≠ "runtime.NumGoroutine" := by simpa using k.names f fn hf
 refine ⟨.enter f A.toArray, w, by simp [callFunc, hf, hnm, hb, Sem.run], ?_⟩
 refine callsIn_of_wp_marks hf hb trivial ?_
 have hpi : PI ⟨c, w, F, fun _ => False, none, none, [], [], []⟩ (fzm F) hS w := by
  refine ⟨bare_hr 0 (fun i B N e => by cases e) hF, bare_wf 0, ⟨fun _ _ => rfl, fun i r e => absurd e (hg0 i r)⟩, fun _ _ _ => rfl, (fun i t z n l e => by cases e), ⟨Same.refl w, fun _ _ => rfl⟩, (fun i B N e => by cases e), fun _ _ _ e => e, fun _ _ => rfl, (by simp only [VRs]), (fun G q => by cases q)⟩
 have h := (H w F).run (T.put und args (env0 und fn.ntmps) 0) (argsL_has args _ 0)
 have ht : Tri ⟨c, w, F, fun _ => False, none, none, [], [], []⟩ fn.ntmps none body ⟨T.put und args (env0 und fn.ntmps) 0, hS, []⟩ (Fin c fn.results.toList v) := h
 refine ht none (fzm F) w _ _ rfl hpi (args_er hA hlen) ⟨[], rfl, rfl⟩ fun x s' a' w' ρ' ⟨hx, h', vs, q1, q2, q3, q4⟩ g1 g2 g3 g4 => ?_
 have hfin : LeavesInM Fence.wide 0 c.P fn a'.tmps (EndR fun z w' => ExtW w w' ∧ ∃ F', (∀ (b j : Nat) (x : Value), (F b)[j]? = some x → (F' b)[j]? = some x) ∧ (∀ b, b < w.heap.size → F' b = F b) ∧ FzW F' w' ∧ VR (fzm F') v z) a'.defers .returning w' := by
  refine leave_ok g2.hr g2.wf (g4.nil rfl) q1 fun w2 g => ?_
  have g5 := g2.good g (ArrKeep.leave q1)
  obtain ⟨z, z1, z2⟩ := results_ok k g5.hr g3 q2
  rw [q3] at z2
  exact ⟨z, z1, ⟨g5.ext.1, fun b hb => g5.ext.2 b ⟨hb, fun q => q⟩⟩, ρ'.F, g5.sub, fun b hb => g5.old b ⟨hb, fun q => q⟩, g5.hr.fz, dat_ok v q4 z2⟩
 rcases hx with rfl | rfl
 ·exact hfin
 ·exact hfin
end Go.Px
end
section
namespace Go.Px
/-! ## types, as a table -/
inductive TK where
 | str | slice (e : Nat) | struct (fl : List (Nat × Nat)) | int (k : IntKind) | bool | arr (n e : Nat) | ptr (e : Nat) | map (k v : Nat) | func | ifc | oth
def tkOf (d : TypeDesc) : TK :=
 match d with
 | .string => .str
 | .slice e => .slice e
 | .struct fs => .struct (fs.toList.map fun f => (f.offset, f.type))
 | .int k => .int k
 | .bool => .bool
 | .array n e => .arr n e
 | .pointer e => .ptr e
 | .map k v => .map k v
 | .func _ _ _ => .func
 | .interface _ => .ifc
 | _ => .oth
def TK.isAgg (k : TK) : Bool := match k with | .struct _ => true | .arr _ _ => true | _ => false
structure TE where
 k : TK
 s : Nat
 b : Nat
 z : AV
def lkT (tb : List (Nat × TE)) (t : Nat) : Option TE := match tb with | [] => none | p :: r => (match Nat.beq t p.1 with | true => some p.2 | false => lkT r t)
structure TOk (c : Ctx) (t : Nat) (e : TE) : Prop where
 k : (c.under t).map tkOf = some e.k
 s : (c.info t).map (fun i => (i.size, i.bytes)) = some (e.s, e.b)
 z : c.zero t = some e.z
def TbP (c : Ctx) : List (Nat × TE) → Prop
 | [] => True
 | p :: r => TOk c p.1 p.2 ∧ TbP c r
theorem TbP.at_ {c : Ctx} : ∀ {tb : List (Nat × TE)}, TbP c tb → ∀ t e, lkT tb t = some e → TOk c t e
 | [], _, t, e, h => by cases h
 | p :: r, ⟨a, b⟩, t, e, h => by
  unfold lkT at h
  split at h
  ·rename_i ht; cases h; rw [beqT ht]; exact a
  ·exact TbP.at_ b t e h
structure Env (c : Ctx) (tb : List (Nat × TE)) : Prop where
 k : CtxOk c
 t : ∀ t e, lkT tb t = some e → TOk c t e
 g : ∀ i r, c.g0.get i ≠ .gl r
theorem TOk.kd {c : Ctx} {t : Nat} {e : TE} (h : TOk c t e) : ∃ d, c.under t = some d ∧ tkOf d = e.k := by
 have h1 := h.k
 cases hd : c.under t with
 | none => rw [hd] at h1; cases h1
 | some d => rw [hd] at h1; simp at h1; exact ⟨d, rfl, h1⟩
theorem TOk.si {c : Ctx} {t : Nat} {e : TE} (h : TOk c t e) : ∃ i, c.info t = some i ∧ i.size = e.s ∧ i.bytes = e.b := by
 have h1 := h.s
 cases hd : c.info t with
 | none => rw [hd] at h1; cases h1
 | some i => rw [hd] at h1; simp at h1; exact ⟨i, rfl, h1.1, h1.2⟩
theorem TOk.agg {c : Ctx} {t : Nat} {e : TE} (h : TOk c t e) : c.isAgg t = some e.k.isAgg := by
 obtain ⟨d, h1, h2⟩ := h.kd
 unfold Ctx.isAgg
 rw [h1, ← h2]
 cases d <;> rfl
theorem TOk.size {c : Ctx} {t : Nat} {e : TE} (h : TOk c t e) : c.size t = some e.s := by
 obtain ⟨i, h1, h2, _⟩ := h.si
 unfold Ctx.size
 rw [h1, ← h2]
theorem TOk.sl {c : Ctx} {t el : Nat} {e : TE} (h : TOk c t e) (k : e.k = .slice el) : c.under t = some (.slice el) := by
 obtain ⟨d, h1, h2⟩ := h.kd
 rw [k] at h2
 cases d <;> simp only [tkOf] at h2 <;> first | (cases h2; done) | (cases h2; exact h1)
theorem TOk.st {c : Ctx} {t : Nat} {e : TE} (h : TOk c t e) (k : e.k = .str) : c.under t = some .string := by
 obtain ⟨d, h1, h2⟩ := h.kd
 rw [k] at h2
 cases d <;> simp only [tkOf] at h2 <;> first | (cases h2; done) | exact h1
theorem TOk.struct {c : Ctx} {t : Nat} {fl : List (Nat × Nat)} {e : TE} (h : TOk c t e) (k : e.k = .struct fl) : ∃ fs, c.under t = some (.struct fs) ∧ fs.toList.map (fun f => (f.offset, f.type)) = fl := by
 obtain ⟨d, h1, h2⟩ := h.kd
 rw [k] at h2
 cases d <;> simp only [tkOf] at h2 <;> first | (cases h2; done) | (cases h2; exact ⟨_, h1, rfl⟩)
/-! ## a region's rest, from known slots -/
structure Ops (X : Cx) (sz : Nat) (rd : Option Nat) (all : Array Oper) (rest : List Oper) (k : List It) (L : List (Nat × AV)) (h : Heap) (m : List Nat) (Q : Post) : Prop where
 run : ∀ e, Has e L → TriOps X sz rd all rest ⟨e, h, m⟩ (fun s' => RunK X sz rd k Q .normal s')
def Want (all : Array Oper) (L : List (Nat × AV)) (o : Oper) (b : Bool) : Prop := ∀ e, Has e L → wantA all.toList e o = some b
theorem Want.no {all : Array Oper} {L : List (Nat × AV)} {o : Oper} (h : o.guard = none) : Want all L o true := fun e _ => by unfold wantA; rw [h]
theorem Want.t {all : Array Oper} {L : List (Nat × AV)} {o p : Oper} {j d : Nat} {w : Bool} (h : o.guard = some (j, w)) (hp : nth1 all.toList j = some p) (hd : p.dst = some d) (hl : lkO L d = some (.bool true)) : Want all L o w := fun e he => by
 rw [nth1_eq] at hp
 have h1 : e.get und d = .bool true := he d _ hl
 unfold wantA
 rw [h]
 simp only [nth_eq, hp, hd]
 rw [h1]
theorem Want.f {all : Array Oper} {L : List (Nat × AV)} {o p : Oper} {j d : Nat} {w : Bool} (h : o.guard = some (j, w)) (hp : nth1 all.toList j = some p) (hd : p.dst = some d) (hl : lkO L d = some (.bool false)) : Want all L o (!w) := fun e he => by
 rw [nth1_eq] at hp
 have h1 : e.get und d = .bool false := he d _ hl
 unfold wantA
 rw [h]
 simp only [nth_eq, hp, hd]
 rw [h1]
theorem Want.tT {all : Array Oper} {L : List (Nat × AV)} {o p : Oper} {j d : Nat} (h : o.guard = some (j, true)) (hp : nth1 all.toList j = some p) (hd : p.dst = some d) (hl : lkO L d = some (.bool true)) : Want all L o true := Want.t h hp hd hl
theorem Want.tF {all : Array Oper} {L : List (Nat × AV)} {o p : Oper} {j d : Nat} (h : o.guard = some (j, false)) (hp : nth1 all.toList j = some p) (hd : p.dst = some d) (hl : lkO L d = some (.bool true)) : Want all L o false := Want.t h hp hd hl
theorem Want.fT {all : Array Oper} {L : List (Nat × AV)} {o p : Oper} {j d : Nat} (h : o.guard = some (j, true)) (hp : nth1 all.toList j = some p) (hd : p.dst = some d) (hl : lkO L d = some (.bool false)) : Want all L o false := Want.f h hp hd hl
theorem Want.fF {all : Array Oper} {L : List (Nat × AV)} {o p : Oper} {j d : Nat} (h : o.guard = some (j, false)) (hp : nth1 all.toList j = some p) (hd : p.dst = some d) (hl : lkO L d = some (.bool false)) : Want all L o true := Want.f h hp hd hl
theorem Want.und {all : Array Oper} {L : List (Nat × AV)} {o p : Oper} {j d : Nat} {w : Bool} (h : o.guard = some (j, w)) (hp : nth1 all.toList j = some p) (hd : p.dst = some d) (hl : lkO L d = some Px.und) : Want all L o false := fun e he => by
 rw [nth1_eq] at hp
 have h1 : e.get Px.und d = .tup [] := he d _ hl
 unfold wantA
 rw [h]
 simp only [nth_eq, hp, hd]
 rw [h1]
def Hop (X : Cx) (L : List (Nat × AV)) (h : Heap) (o : Oper) (v : AV) (h' : Heap) : Prop := ∀ e, Has e L → opA X.c e h o.op = some (.v v h')
section
variable {X : Cx} {tb : List (Nat × TE)} {sz : Nat} {rd : Option Nat} {all : Array Oper} {o : Oper} {rest : List Oper} {k : List It} {L : List (Nat × AV)} {h : Heap} {m : List Nat} {Q : Post}
theorem Go.region {id : Nat} {l : List Oper} (hl : all.toList = l) (n : Ops X sz rd all l k L h m Q) : Go X sz rd (.code (.region id all false) :: k) L h m Q := ⟨fun e he => by
 subst hl; exact Tri.region (n.run e he)⟩
theorem Ops.nil (n : Go X sz rd k L h m Q) : Ops X sz rd all [] k L h m Q := ⟨fun e he => TriOps.nil (n.run e he)⟩
theorem Ops.sub {M : List (Nat × AV)} (hs : SubL L M) (n : Ops X sz rd all rest k M h m Q) : Ops X sz rd all rest k L h m Q := ⟨fun e he => n.run e (he.sub hs)⟩
theorem setD_some {e : T AV} {d : Nat} {v : AV} (hs : Nat.ble (d + 1) sz = true) : setD e (some d) v sz h = .ok (e.set und d v) h := by unfold setD; simp only [hs]
theorem Ops.mem (E : Env X.c tb) {d : Nat} {v : AV} {h' : Heap} (hd : o.dst = some d) (hs : Nat.ble (d + 1) sz = true) (hw : Want all L o true) (hop : Hop X L h o v h') (ha : ArrKeep h h') (n : Ops X sz rd all rest k ((d, v) :: L) h' m Q) : Ops X sz rd all (o :: rest) k L h m Q := ⟨fun e he =>
 TriOps.cons (hw e he) (OpT.opA E.k (hop e he) ha ⟨e.set und d v, by rw [hd]; exact setD_some hs, n.run _ (he.set d v)⟩)⟩
theorem Ops.val (E : Env X.c tb) {d : Nat} {v : AV} (hd : o.dst = some d) (hs : Nat.ble (d + 1) sz = true) (hw : Want all L o true) (hop : Hop X L h o v h) (n : Ops X sz rd all rest k ((d, v) :: L) h m Q) : Ops X sz rd all (o :: rest) k L h m Q :=
 Ops.mem E hd hs hw hop (ArrKeep.refl h) n
theorem Ops.unit (E : Env X.c tb) {v : AV} {h' : Heap} (hd : o.dst = none) (hw : Want all L o true) (hop : Hop X L h o v h') (ha : ArrKeep h h') (n : Ops X sz rd all rest k L h' m Q) : Ops X sz rd all (o :: rest) k L h m Q := ⟨fun e he =>
 TriOps.cons (hw e he) (OpT.opA E.k (hop e he) ha ⟨e, by rw [hd]; rfl, n.run e he⟩)⟩
theorem Ops.skip {d : Nat} (hd : o.dst = some d) (hs : Nat.ble (d + 1) sz = true) (hw : Want all L o false) (n : Ops X sz rd all rest k ((d, und) :: L) h m Q) : Ops X sz rd all (o :: rest) k L h m Q := ⟨fun e he =>
 TriOps.skip (hw e he) (e' := e.set und d und) (by rw [hd]; exact setD_some hs) (n.run _ (he.set d und))⟩
theorem Ops.case {d : Nat} {b : Bool} (hb : lkO L d = some (.bool b)) (n1 : b = true → Ops X sz rd all rest k ((d, .bool true) :: L) h m Q) (n2 : b = false → Ops X sz rd all rest k ((d, .bool false) :: L) h m Q) : Ops X sz rd all rest k L h m Q := ⟨fun e he => by
 have key : ∀ {v : AV}, v = .bool b → Has e ((d, v) :: L) := fun {v} hv t u q => by
  unfold lkO at q
  split at q
  ·rename_i ht; cases q; have ht := beqT ht; subst ht; rw [hv]; exact he t _ hb
  ·exact he t u q
 cases b with
 | true => exact (n1 rfl).run e (key rfl)
 | false => exact (n2 rfl).run e (key rfl)⟩
theorem Ops.call (E : Env X.c tb) {d : Nat} {v : AV} {cl : Call} {f : Operand} {g : FuncId} {vs : List AV} (hd : o.dst = some d) (hs : Nat.ble (d + 1) sz = true) (hw : Want all L o true) (ho : o.op = .call cl) (hc : cl.callee = .value f) (hf : evL L f = some (.fn (.func g) [] []))
  (hv : evsL L cl.args.toList = some vs) (hk : KOk X.c g vs v) (hdt : datsB vs = true) (n : Ops X sz rd all rest k ((d, v) :: L) h m Q) : Ops X sz rd all (o :: rest) k L h m Q := ⟨fun e he =>
 TriOps.cons (hw e he) (OpT.call E.k ho hc (he.ev hf) (he.evs hv) hdt hk ⟨e.set und d v, by rw [hd]; exact setD_some hs, n.run _ (he.set d v)⟩)⟩
end
/-! ## numbers -/
theorem ilt_dec (a b : Int) : ilt a b = decide (a < b) := ilt_eq a b
theorem ieq_dec (a b : Int) : ieq a b = decide (a = b) := by
 rw [ieq_eq]
 by_cases h : a = b <;> simp [h]
noncomputable def bd (p : Prop) : Bool := @decide p (Classical.propDecidable p)
theorem bd_dec (p : Prop) [Decidable p] : decide p = bd p := by
 unfold bd
 by_cases h : p <;> simp [h]
theorem bd_iff {p : Prop} : bd p = true ↔ p := by unfold bd; simp
theorem bd_not {p : Prop} : bd p = false ↔ ¬ p := by unfold bd; simp
theorem bd_of {p : Prop} (h : p) : bd p = true := bd_iff.2 h
theorem bd_no {p : Prop} (h : ¬ p) : bd p = false := bd_not.2 h
theorem ikEq_refl (k : IntKind) : ikEq k k = true := by cases k <;> rfl
theorem wr_i64 {n : Int} (h : -9223372036854775808 ≤ n ∧ n < 9223372036854775808) : wr .i64 n = n := by
 cases n with
 | ofNat a =>
  have ha : a < 9223372036854775808 := by have h2 := h.2; rw [Int.ofNat_eq_natCast] at h2; omega
  have h1 : um .i64 (Int.ofNat a) = a := by show a % 18446744073709551616 = a; omega
  have h2 : Nat.ble (pw .i64) (2 * a) = false := by
   cases e : Nat.ble (pw .i64) (2 * a)
   ·rfl
   ·have := bleT e; simp [pw] at this; omega
  show (match Nat.ble (pw .i64) (2 * um .i64 (Int.ofNat a)) with | false => Int.ofNat (um .i64 (Int.ofNat a)) | true => _) = _
  rw [h1, h2]
 | negSucc a =>
  have ha : a < 9223372036854775808 := by omega
  have h1 : um .i64 (Int.negSucc a) = 18446744073709551615 - a := by show 18446744073709551616 - 1 - a % 18446744073709551616 = _; omega
  have h2 : Nat.ble (pw .i64) (2 * (18446744073709551615 - a)) = true := Nat.ble_eq_true_of_le (by simp [pw]; omega)
  show (match Nat.ble (pw .i64) (2 * um .i64 (Int.negSucc a)) with | false => _ | true => Int.negSucc (pw .i64 - 1 - um .i64 (Int.negSucc a))) = _
  rw [h1, h2]
  show Int.negSucc (18446744073709551616 - 1 - (18446744073709551615 - a)) = _
  congr 1; omega
section
variable {X : Cx} {sz : Nat} {rd : Option Nat} {all : Array Oper} {rest : List Oper} {k : List It} {L : List (Nat × AV)} {h : Heap} {m : List Nat} {Q : Post}
theorem Ops.caseP {d : Nat} {p : Prop} (hb : lkO L d = some (.bool (bd p))) (n1 : p → Ops X sz rd all rest k ((d, .bool true) :: L) h m Q) (n2 : ¬ p → Ops X sz rd all rest k ((d, .bool false) :: L) h m Q) : Ops X sz rd all rest k L h m Q :=
 Ops.case hb (fun q => n1 (bd_iff.1 q)) (fun q => n2 (bd_not.1 q))
theorem Ops.caseN {d : Nat} {p : Prop} (hb : lkO L d = some (.bool (!bd p))) (n1 : ¬ p → Ops X sz rd all rest k ((d, .bool true) :: L) h m Q) (n2 : p → Ops X sz rd all rest k ((d, .bool false) :: L) h m Q) : Ops X sz rd all rest k L h m Q :=
 Ops.case hb (fun q => n1 (bd_not.1 (by simpa using q))) (fun q => n2 (bd_iff.1 (by simpa using q)))
theorem Go.condT {x : Operand} {c d : Code} (hb : evL L x = some (.bool true)) (g1 : Go X sz rd (.code c :: k) L h m Q) : Go X sz rd (.code (.cond x c d) :: k) L h m Q :=
 Go.cond hb (fun _ => g1) (fun q => by cases q)
theorem Go.condF {x : Operand} {c d : Code} (hb : evL L x = some (.bool false)) (g2 : Go X sz rd (.code d :: k) L h m Q) : Go X sz rd (.code (.cond x c d) :: k) L h m Q :=
 Go.cond hb (fun q => by cases q) (fun _ => g2)
noncomputable def gslot (all : Array Oper) (rest : List Oper) : Option Nat :=
 match rest with
 | o :: _ => (match o.guard with | some (j, _) => (match nth1 all.toList j with | some p => p.dst | none => none) | none => none)
 | [] => none
theorem Ops.gP {d : Nat} {p : Prop} (hg : gslot all rest = some d) (hb : lkO L d = some (.bool (bd p))) (n1 : p → Ops X sz rd all rest k ((d, .bool true) :: L) h m Q) (n2 : ¬ p → Ops X sz rd all rest k ((d, .bool false) :: L) h m Q) : Ops X sz rd all rest k L h m Q := Ops.caseP hb n1 n2
theorem Ops.gN {d : Nat} {p : Prop} (hg : gslot all rest = some d) (hb : lkO L d = some (.bool (!bd p))) (n1 : ¬ p → Ops X sz rd all rest k ((d, .bool true) :: L) h m Q) (n2 : p → Ops X sz rd all rest k ((d, .bool false) :: L) h m Q) : Ops X sz rd all rest k L h m Q := Ops.caseN hb n1 n2
end
section
variable {X : Cx} {L : List (Nat × AV)} {h : Heap} {o : Oper}
theorem Hop.move {x : Operand} {v : AV} (ho : o.op = .move x) (hx : evL L x = some v) : Hop X L h o v h := fun e he => by rw [ho]; simp only [opA]; rw [he.ev hx]
theorem Hop.assign {x : Operand} {v : AV} (ho : o.op = .assign x) (hx : evL L x = some v) : Hop X L h o v h := fun e he => by rw [ho]; simp only [opA]; rw [he.ev hx]
theorem Hop.pickT {b x y : Operand} {v : AV} (ho : o.op = .pick b x y) (hb : evL L b = some (.bool true)) (hx : evL L x = some v) : Hop X L h o v h := fun e he => by rw [ho]; simp only [opA]; rw [he.ev hb, he.ev hx]
theorem Hop.pickF {b x y : Operand} {v : AV} (ho : o.op = .pick b x y) (hb : evL L b = some (.bool false)) (hx : evL L y = some v) : Hop X L h o v h := fun e he => by rw [ho]; simp only [opA]; rw [he.ev hb, he.ev hx]
theorem Hop.not {t : Nat} {x : Operand} {b : Bool} (ho : o.op = .unOp .not t x) (hx : evL L x = some (.bool b)) : Hop X L h o (.bool (!b)) h := fun e he => by rw [ho]; simp only [opA]; rw [he.ev hx]; rfl
theorem Hop.makeFunc {f : FuncId} {a b : Array Operand} {va vb : List AV} (ho : o.op = .makeFunc (.func f) a b) (ha : evsL L a.toList = some va) (hb : evsL L b.toList = some vb) : Hop X L h o (.fn (.func f) va vb) h := fun e he => by
 rw [ho]; simp only [opA]; rw [he.evs ha, he.evs hb]
theorem Hop.extract {x : Operand} {i : Nat} {l : List AV} {v : AV} (ho : o.op = .extract x i) (hx : evL L x = some (.tup l)) (hv : nth1 l i = some v) : Hop X L h o v h := fun e he => by
 rw [ho]; simp only [opA]; rw [he.ev hx]; simp only [oExtract, nth_eq, val]; rw [nth1_eq] at hv; rw [hv]
theorem opA_bin {x y : Operand} {op : BinOp} {t u : Nat} {kk : IntKind} {a b : Int} {v : AV} (ho : o.op = .binOp op t x y u) (hx : evL L x = some (.int kk a)) (hy : evL L y = some (.int kk b))
  (hne : op ≠ .shl ∧ op ≠ .shr) (hv : intOp op kk a b = some v) : Hop X L h o v h := fun e he => by
 rw [ho]; simp only [opA]; rw [he.ev hx, he.ev hy]
 have : oBinX X.c op t (constB x y) (.int kk a) (.int kk b) = intOp op kk a b := by
  unfold oBinX oBin
  simp only []
  cases op <;> simp only [ikEq_refl] <;> first | exact absurd rfl hne.1 | exact absurd rfl hne.2 | rfl
 rw [this, hv]; rfl
theorem Hop.lss {x y : Operand} {t u : Nat} {kk : IntKind} {a b : Int} (ho : o.op = .binOp .lss t x y u) (hx : evL L x = some (.int kk a)) (hy : evL L y = some (.int kk b)) : Hop X L h o (.bool (bd (a < b))) h :=
 opA_bin ho hx hy ⟨by simp, by simp⟩ (by rw [← bd_dec]; simp only [intOp]; rw [ilt_dec])
theorem Hop.leq {x y : Operand} {t u : Nat} {kk : IntKind} {a b : Int} (ho : o.op = .binOp .leq t x y u) (hx : evL L x = some (.int kk a)) (hy : evL L y = some (.int kk b)) : Hop X L h o (.bool (bd (a ≤ b))) h :=
 opA_bin ho hx hy ⟨by simp, by simp⟩ (by rw [← bd_dec]; simp only [intOp]; rw [ilt_dec]; congr 2; by_cases q : a ≤ b <;> simp [q] <;> omega)
theorem Hop.gtr {x y : Operand} {t u : Nat} {kk : IntKind} {a b : Int} (ho : o.op = .binOp .gtr t x y u) (hx : evL L x = some (.int kk a)) (hy : evL L y = some (.int kk b)) : Hop X L h o (.bool (bd (b < a))) h :=
 opA_bin ho hx hy ⟨by simp, by simp⟩ (by rw [← bd_dec]; simp only [intOp]; rw [ilt_dec])
theorem Hop.geq {x y : Operand} {t u : Nat} {kk : IntKind} {a b : Int} (ho : o.op = .binOp .geq t x y u) (hx : evL L x = some (.int kk a)) (hy : evL L y = some (.int kk b)) : Hop X L h o (.bool (bd (b ≤ a))) h :=
 opA_bin ho hx hy ⟨by simp, by simp⟩ (by rw [← bd_dec]; simp only [intOp]; rw [ilt_dec]; congr 2; by_cases q : b ≤ a <;> simp [q] <;> omega)
theorem Hop.eql {x y : Operand} {t u : Nat} {kk : IntKind} {a b : Int} (ho : o.op = .binOp .eql t x y u) (hx : evL L x = some (.int kk a)) (hy : evL L y = some (.int kk b)) : Hop X L h o (.bool (bd (a = b))) h :=
 opA_bin ho hx hy ⟨by simp, by simp⟩ (by rw [← bd_dec]; simp only [intOp]; rw [ieq_dec])
theorem Hop.neq {x y : Operand} {t u : Nat} {kk : IntKind} {a b : Int} (ho : o.op = .binOp .neq t x y u) (hx : evL L x = some (.int kk a)) (hy : evL L y = some (.int kk b)) : Hop X L h o (.bool (!bd (a = b))) h :=
 opA_bin ho hx hy ⟨by simp, by simp⟩ (by rw [← bd_dec]; simp only [intOp]; rw [ieq_dec])
theorem Hop.add {x y : Operand} {t u : Nat} {a b : Int} (ho : o.op = .binOp .add t x y u) (hx : evL L x = some (.int .i64 a)) (hy : evL L y = some (.int .i64 b)) (hr : -9223372036854775808 ≤ a + b ∧ a + b < 9223372036854775808) : Hop X L h o (.int .i64 (a + b)) h :=
 opA_bin ho hx hy ⟨by simp, by simp⟩ (by simp only [intOp]; rw [wr_i64 hr])
theorem Hop.sub {x y : Operand} {t u : Nat} {a b : Int} (ho : o.op = .binOp .sub t x y u) (hx : evL L x = some (.int .i64 a)) (hy : evL L y = some (.int .i64 b)) (hr : -9223372036854775808 ≤ a - b ∧ a - b < 9223372036854775808) : Hop X L h o (.int .i64 (a - b)) h :=
 opA_bin ho hx hy ⟨by simp, by simp⟩ (by simp only [intOp]; rw [wr_i64 hr])
theorem Hop.mul {x y : Operand} {t u : Nat} {a b : Int} (ho : o.op = .binOp .mul t x y u) (hx : evL L x = some (.int .i64 a)) (hy : evL L y = some (.int .i64 b)) (hr : -9223372036854775808 ≤ a * b ∧ a * b < 9223372036854775808) : Hop X L h o (.int .i64 (a * b)) h :=
 opA_bin ho hx hy ⟨by simp, by simp⟩ (by simp only [intOp]; rw [wr_i64 hr])
theorem Hop.bin {x y : Operand} {op : BinOp} {t u : Nat} {kk : IntKind} {a b : Int} {v : AV} (ho : o.op = .binOp op t x y u) (hx : evL L x = some (.int kk a)) (hy : evL L y = some (.int kk b)) (hne : op ≠ .shl ∧ op ≠ .shr) (hv : intOp op kk a b = some v) : Hop X L h o v h := opA_bin ho hx hy hne hv
end
end Go.Px
end
section
namespace Go.Px
/-! ## lists as slices that nobody writes -/
def dsl {α : Type} (z : Nat) (enc : α → List AV) (l : List α) : AV := .rsl l.length z (l.flatMap enc)
theorem flat_len {α : Type} {z : Nat} {enc : α → List AV} (he : ∀ a, (enc a).length = z) : ∀ l : List α, (l.flatMap enc).length = l.length * z
 | [] => by simp
 | a :: l => by rw [List.flatMap_cons, List.length_append, he, flat_len he l, List.length_cons, Nat.succ_mul]; omega
theorem flat_at {α : Type} {z : Nat} {enc : α → List AV} (he : ∀ a, (enc a).length = z) (d : α) : ∀ (l : List α) (i : Nat), i < l.length → ((l.flatMap enc).drop (i * z)).take z = enc (l.getD i d)
 | [], i, h => by simp at h
 | a :: l, 0, h => by
  rw [List.flatMap_cons, Nat.zero_mul, List.drop_zero, List.take_append_of_le_length (by rw [he]; exact Nat.le_refl _), List.take_of_length_le (by rw [he]; exact Nat.le_refl _)]
  rfl
 | a :: l, i + 1, h => by
  rw [List.flatMap_cons, show (i + 1) * z = (enc a).length + i * z by rw [he, Nat.succ_mul]; omega, List.drop_append, List.drop_eq_nil_of_le (by omega), List.nil_append, Nat.add_sub_cancel_left]
  rw [flat_at he d l i (by simpa using h)]
  rfl
theorem flat_drop {α : Type} {z : Nat} {enc : α → List AV} (he : ∀ a, (enc a).length = z) : ∀ (l : List α) (i : Nat), (l.flatMap enc).drop (i * z) = (l.drop i).flatMap enc
 | [], i => by simp
 | a :: l, 0 => by simp
 | a :: l, i + 1 => by
  rw [List.flatMap_cons, show (i + 1) * z = (enc a).length + i * z by rw [he, Nat.succ_mul]; omega, List.drop_append, List.drop_eq_nil_of_le (by omega), List.nil_append, Nat.add_sub_cancel_left, flat_drop he l i]
  rfl
theorem flat_take {α : Type} {z : Nat} {enc : α → List AV} (he : ∀ a, (enc a).length = z) : ∀ (l : List α) (i : Nat), (l.flatMap enc).take (i * z) = (l.take i).flatMap enc
 | [], i => by simp
 | a :: l, 0 => by simp
 | a :: l, i + 1 => by
  rw [List.flatMap_cons, show (i + 1) * z = (enc a).length + i * z by rw [he, Nat.succ_mul]; omega, List.take_append, List.take_of_length_le (by omega), Nat.add_sub_cancel_left, flat_take he l i, List.take_succ_cons, List.flatMap_cons]
def sA (s : List UInt8) : AV := .str (s.map UInt8.toNat)
theorem inRange_of {a : Int} {n : Nat} (h : 0 ≤ a ∧ a < n) : inRange a n = some a.toNat := by
 cases a with
 | ofNat m =>
  have h2 := h.2
  rw [Int.ofNat_eq_natCast] at h2
  show (match Nat.ble (m + 1) n with | true => some m | false => none) = some m
  rw [Nat.ble_eq_true_of_le (by omega)]
 | negSucc m => have := h.1; omega
theorem upTo_of {a : Int} {n : Nat} (h : 0 ≤ a ∧ a ≤ n) : upTo a n = some a.toNat := by
 cases a with
 | ofNat m =>
  have h2 := h.2
  rw [Int.ofNat_eq_natCast] at h2
  show (match Nat.ble m n with | true => some m | false => none) = some m
  rw [Nat.ble_eq_true_of_le (by omega)]
 | negSucc m => have := h.1; omega
section
variable {X : Cx} {tb : List (Nat × TE)} (E : Env X.c tb) {L : List (Nat × AV)} {h : Heap} {o : Oper}
include E
/-! ## addresses -/
theorem fieldA {t : Nat} {e : TE} {fl : List (Nat × Nat)} {i : Nat} {f : Nat × Nat} {s : TE} (ht : lkT tb t = some e) (hk : e.k = .struct fl) (hf : nth1 fl i = some f) (hs : lkT tb f.2 = some s) (h0 : Nat.beq s.s 0 = false) :
  ∃ fs g, X.c.under t = some (.struct fs) ∧ nth fs.toList i = some g ∧ g.offset = f.1 ∧ g.type = f.2 ∧ X.c.size g.type = some s.s := by
 obtain ⟨fs, h1, h2⟩ := (E.t t e ht).struct hk
 rw [nth1_eq, ← h2, List.getElem?_map] at hf
 cases hg : fs.toList[i]? with
 | none => rw [hg] at hf; cases hf
 | some g =>
  rw [hg] at hf; cases hf
  exact ⟨fs, g, h1, by rw [nth_eq]; exact hg, rfl, rfl, (E.t _ s hs).size⟩
theorem Hop.faP {t : Nat} {x : Operand} {i id off : Nat} {e : TE} {fl : List (Nat × Nat)} {f : Nat × Nat} {s : TE} (ho : o.op = .fieldAddr t x i) (hx : evL L x = some (.ptr id off)) (ht : lkT tb t = some e) (hk : e.k = .struct fl) (hf : nth1 fl i = some f) (hs : lkT tb f.2 = some s) (h0 : Nat.beq s.s 0 = false) :
  Hop X L h o (.ptr id (off + f.1)) h := fun e' he => by
 obtain ⟨fs, g, h1, h2, h3, h4, h5⟩ := fieldA E ht hk hf hs h0
 rw [ho]; simp only [opA]; rw [he.ev hx]
 simp only [oFieldAddr, h1, h2, h5, h0, h3, Px.val]
theorem Hop.idx {α : Type} [Inhabited α] {t el : Nat} {x i : Operand} {z : Nat} {enc : α → List AV} {l : List α} {kk : IntKind} {a : Int} {e s : TE} (ho : o.op = .indexAddr t x i) (hx : evL L x = some (dsl z enc l)) (hi : evL L i = some (.int kk a))
  (ht : lkT tb t = some e) (hk : e.k = .slice el) (hs : lkT tb el = some s) (hz : Nat.beq s.s z = true) (henc : ∀ a, (enc a).length = z) (hr : 0 ≤ a ∧ a < l.length) : Hop X L h o (.rptr (enc (l.getD a.toNat default))) h := fun e' he => by
 have h1 := (E.t t e ht).sl hk
 have h2 := (E.t el s hs).size
 rw [ho]; simp only [opA]; rw [he.ev hx, he.ev hi]
 simp only [oIndexAddr, h1, dsl, inRange_of hr, h2, hz, Px.val]
 rw [flat_at henc default l a.toNat (by omega)]
theorem Hop.idxO {t el : Nat} {x i : Operand} {id n z : Nat} {kk : IntKind} {a : Int} {e s : TE} (ho : o.op = .indexAddr t x i) (hx : evL L x = some (.own id n z)) (hi : evL L i = some (.int kk a))
  (ht : lkT tb t = some e) (hk : e.k = .slice el) (hs : lkT tb el = some s) (hz : Nat.beq s.s z = true) (hr : 0 ≤ a ∧ a < n) : Hop X L h o (.optr id n (a.toNat * z)) h := fun e' he => by
 have h1 := (E.t t e ht).sl hk
 have h2 := (E.t el s hs).size
 rw [ho]; simp only [opA]; rw [he.ev hx, he.ev hi]
 simp only [oIndexAddr, h1, inRange_of hr, h2, hz, Px.val]
/-! ## loads -/
theorem Hop.ldR {t : Nat} {x : Operand} {l : List AV} {v : AV} {e : TE} (ho : o.op = .load t x) (hx : evL L x = some (.rptr l)) (ht : lkT tb t = some e) (ha : e.k.isAgg = false) (hv : nth1 l 0 = some v) : Hop X L h o v h := fun e' he => by
 have h1 := (E.t t e ht).agg
 rw [ho]; simp only [opA]; rw [he.ev hx]
 simp only [oLoad, h1, ha, hv, Px.val]
theorem Hop.ldP {t : Nat} {x : Operand} {id off : Nat} {r : Row} {v : AV} {e : TE} (ho : o.op = .load t x) (hx : evL L x = some (.ptr id off)) (ht : lkT tb t = some e) (ha : e.k.isAgg = false) (hr : h.row id = some r) (hb : Nat.ble (off + 1) r.n = true) (hv : nth1 (r.read off 1) 0 = some v) : Hop X L h o v h := fun e' he => by
 have h1 := (E.t t e ht).agg
 rw [ho]; simp only [opA]; rw [he.ev hx]
 have hv2 : r.get off = v := by
  rw [Row.read_succ] at hv
  cases hv; rfl
 simp only [oLoad, h1, ha, hr, hb, hv2, Px.val]
theorem Hop.ldPG {t : Nat} {x : Operand} {id off : Nat} {r : Row} {l : List AV} {e : TE} (ho : o.op = .load t x) (hx : evL L x = some (.ptr id off)) (ht : lkT tb t = some e) (ha : e.k.isAgg = true) (hr : h.row id = some r) (hb : Nat.ble (off + e.s) r.n = true) (hv : r.read off e.s = l) : Hop X L h o (.agg l) h := fun e' he => by
 have h1 := (E.t t e ht).agg
 have h2 := (E.t t e ht).size
 rw [ho]; simp only [opA]; rw [he.ev hx]
 simp only [oLoad, h1, ha, h2, hr, hb, hv, Px.val]
theorem Hop.ldO {t : Nat} {x : Operand} {id n off : Nat} {ty z : Nat} {l : List AV} {v : AV} {e : TE} (ho : o.op = .load t x) (hx : evL L x = some (.optr id n off)) (ht : lkT tb t = some e) (ha : e.k.isAgg = false) (hg : h.get id = .arr ty z n l) (hv : l[off]? = some v) : Hop X L h o v h := fun e' he => by
 have h1 := (E.t t e ht).agg
 rw [ho]; simp only [opA]; rw [he.ev hx]
 simp only [oLoad, h1, ha, hg, Nat.beq_refl, nth1_eq, List.getElem?_drop, Nat.add_zero, hv, Px.val]
/-! ## lengths -/
omit E in
theorem len_op {x : Operand} {t : Nat} {v : AV} {cl : Call} {va : AV} (ho : o.op = .call cl) (hc : cl.callee = .builtin .len) (ha : cl.args.toList = [x]) (hts : nth1 cl.argTypes.toList 0 = some t) (hx : evL L x = some va) (hl : oLen X.c h t va = some v) : Hop X L h o v h := fun e' he => by
 rw [ho]; simp only [opA, oCall, hc, ha]
 rw [nth1_eq] at hts
 simp only [List.map_cons, List.map_nil, he.ev hx, oBuiltin, nth_eq, hts, hl]
theorem Hop.lenD {α : Type} {x : Operand} {t el z : Nat} {enc : α → List AV} {l : List α} {cl : Call} {e : TE} (ho : o.op = .call cl) (hc : cl.callee = .builtin .len) (ha : cl.args.toList = [x]) (hts : nth1 cl.argTypes.toList 0 = some t) (hx : evL L x = some (dsl z enc l)) (ht : lkT tb t = some e) (hk : e.k = .slice el) :
  Hop X L h o (.int .i64 (l.length : Int)) h := len_op ho hc ha hts hx (by simp only [oLen, dsl, (E.t t e ht).sl hk]; rfl)
/-! ## the lesser, the greater -/
/-! ## cuts -/
theorem Hop.from_ {α : Type} {t el : Nat} {x lo : Operand} {z : Nat} {enc : α → List AV} {l : List α} {kk : IntKind} {a : Int} {e s : TE} (ho : o.op = .slice t x (some lo) none none) (hx : evL L x = some (dsl z enc l)) (hlo : evL L lo = some (.int kk a))
  (ht : lkT tb t = some e) (hk : e.k = .slice el) (hs : lkT tb el = some s) (hz : Nat.beq s.s z = true) (henc : ∀ a, (enc a).length = z) (hr : 0 ≤ a ∧ a ≤ l.length) : Hop X L h o (dsl z enc (l.drop a.toNat)) h := fun e' he => by
 have h1 := (E.t t e ht).sl hk
 have h2 := (E.t el s hs).size
 rw [ho]; simp only [opA, evo]; rw [he.ev hx, he.ev hlo]
 have : oSlice X.c t (dsl z enc l) (some (.int kk a)) none none = some (dsl z enc (l.drop a.toNat)) := by
  simp only [oSlice, h1, h2, dsl, hz, cutRsl, optInt, upTo_of hr]
  rw [flat_drop henc, List.take_of_length_le (by rw [flat_len henc, List.length_drop]; exact Nat.le_refl _), List.length_drop]
 simp only [oSliceH, this, Px.val]
/-! ## new cells, and what is stored -/
theorem Hop.alloc {t : Nat} {e : TE} {n : Nat} {cs : List AV} (ho : o.op = .alloc t) (ht : lkT tb t = some e) (hc : (match e.z with | .agg l => some (l.length, l) | .bad => none | v => some (1, [v])) = some (n, cs)) : Hop X L h o (.ptr h.nxt 0) (newRow h t n .leaf cs) := fun e' he => by
 rw [ho]; simp only [opA, oAlloc, (E.t t e ht).z]
 cases hz : e.z <;> rw [hz] at hc <;> simp only [oBox, valH] <;> cases hc <;> rfl
theorem Hop.store {t : Nat} {x y : Operand} {id off : Nat} {v : AV} {h' : Heap} {e : TE} (ho : o.op = .store t x y) (hx : evL L x = some (.ptr id off)) (hy : evL L y = some v) (ht : lkT tb t = some e) (hl : Nat.beq e.s v.cells.length = true) (hw : wCells h id off v.cells = some h') : Hop X L h o Px.und h' := fun e' he => by
 rw [ho]; simp only [opA]; rw [he.ev hx, he.ev hy]
 simp only [oStore, (E.t t e ht).size, hl, hw, Px.unit]
end
/-! ## results -/
def resL (L : List (Nat × AV)) : List ResultVar → Option (List AV)
 | [] => some []
 | .tmp t :: r => (match lkO L t with | some v => (match resL L r with | some vs => some (v :: vs) | none => none) | none => none)
 | .cell _ _ :: _ => none
theorem resL_ok {c : Ctx} {h : Heap} {L : List (Nat × AV)} {e : T AV} (he : Has e L) : ∀ {res : List ResultVar} {vs : List AV}, resL L res = some vs → resA c h e res = some vs
 | [], vs, q => by cases q; rfl
 | .tmp t :: r, vs, q => by
  unfold resL at q
  split at q
  ·rename_i v hv
   split at q
   ·rename_i us hu
    cases q
    have h1 := resL_ok (c := c) (h := h) he hu
    show (match some (e.get und t) with | some v => (match resA c h e r with | some vs => some (v :: vs) | none => none) | none => none) = _
    rw [h1, he t v hv]
   ·cases q
  ·cases q
 | .cell a t :: r, vs, q => by cases q
theorem Go.retF {X : Cx} {sz : Nat} {rd : Option Nat} {k : List It} {L : List (Nat × AV)} {h : Heap} {c : Ctx} {res : List ResultVar} {vs : List AV} {v : AV} (hr : resL L res = some vs) (hv : one vs = v) (hd : datB v = true) : Go X sz rd (.code .ret :: k) L h [] (Fin c res v) :=
 Go.ret fun e he => ⟨.inr rfl, h, vs, rfl, resL_ok he hr, hv, hd⟩
end Go.Px
end
section
namespace Go.Px
theorem plan_static2 {c : Ctx} {ops : Array Oper} {l : List Nat} {L : List PStep} {p : Nat} (hl : stepsOf c ops.toList (masks ops.toList []) l = some L)
  (hp : planOk ops.toList (masks ops.toList []) (writers ops.toList .leaf 0) (Nat.pred (bit1 p)) L 0 = true) : Static c ops (masks ops.toList []) (writers ops.toList .leaf 0) L ∧ Cover p L ∧ ∀ (m : Nat) (s : PStep), L[m]? = some s → s.i < p := by
 obtain ⟨h1, h2⟩ := planOk_spec hp
 have hat : ∀ i : Nat, ops.toList[i]? = ops[i]? := fun i => by simp
 have hmask : ∀ (i : Nat) o pm, ops[i]? = some o → nth (masks ops.toList []) i = some pm → ∃ n r, masks ops.toList [] = n ++ r ∧ pm = maskOf n o.after.toList := fun i o pm q1 q2 => by
  obtain ⟨n, r, a, b, d⟩ := masks_at ops.toList [] i o (by rw [hat]; exact q1)
  rw [nth_eq] at q2
  simp at d
  rw [q2] at d; cases d
  exact ⟨n, r, a, rfl⟩
 have e1 : Nat.pred (bit1 p) = 2 ^ p - 1 := by
  unfold bit1
  rw [show Nat.shiftLeft 1 p = 1 <<< p from rfl, Nat.one_shiftLeft]
  simp [Nat.pred_eq_sub_one]
 refine ⟨⟨fun m s e => ?_, fun m s e => h1 m s e, fun i o pm q1 q2 j hj => ?_, fun i o pm q1 q2 ed he hb => ?_⟩, fun i hi => ?_, fun m s hs => ?_⟩
 ·obtain ⟨a, b, d⟩ := stepsOf_spec hl s (List.mem_of_getElem? e)
  rw [nth_eq, hat] at a
  exact ⟨a, b, d⟩
 ·obtain ⟨n, r, a, rfl⟩ := hmask i o pm q1 q2
  obtain ⟨ed, e1, e2, e3⟩ := (maskOf_spec n j _).1 hj
  refine ⟨ed, by simpa using e1, by rw [← edgeB_eq]; exact e2, ?_⟩
  rcases e3 with e3 | e3
  ·exact .inl e3
  ·right
   cases hn : nth n ed.on with
   | none => rw [hn, show nat0 none = 0 from rfl, bit_zero] at e3; cases e3
   | some y =>
    rw [hn] at e3
    have : nth (masks ops.toList []) ed.on = some y := by
     rw [a, nth_eq, List.getElem?_append_left (by rw [nth_eq] at hn; exact (List.getElem?_eq_some_iff.1 hn).1), ← nth_eq]; exact hn
    rw [this]; exact e3
 ·obtain ⟨n, r, a, rfl⟩ := hmask i o pm q1 q2
  exact (maskOf_spec n ed.on _).2 ⟨ed, by simpa using he, by rw [edgeB_eq]; exact hb, .inl rfl⟩
 ·have : bitB (L.foldl (fun d s => orB d (bit1 s.i)) 0) i = true := by
   rw [h2, bitB_eq, e1, Nat.testBit_two_pow_sub_one]
   simpa using hi
  rw [foldl_bits, bit_zero] at this
  rcases this with q | ⟨s, q1, q2⟩
  ·cases q
  ·obtain ⟨m, hm⟩ := List.getElem?_of_mem q1
   exact ⟨m, s, hm, q2⟩
 ·have : bitB (L.foldl (fun d s => orB d (bit1 s.i)) 0) s.i = true := by
   rw [foldl_bits]
   exact .inr ⟨s, List.mem_of_getElem? hs, rfl⟩
  rw [h2, bitB_eq, e1, Nat.testBit_two_pow_sub_one] at this
  simpa using this
theorem draw_sound2 {c : Ctx} (k : CtxOk c) (hm : c.P.follows .mixedOrders = true) {app : App} (ha : AppOk c app) {id sz : Nat} {ops : Array Oper} {l : List Nat} {L : List PStep} (hl : stepsOf c ops.toList (masks ops.toList []) l = some L)
  (hp : planOk ops.toList (masks ops.toList []) (writers ops.toList .leaf 0) (Nat.pred (bit1 ops.toList.length)) L 0 = true) {e e' : T AV} {h h' : Heap} (hd : runPs c app sz ops.toList L e h [(h, ops.toList.length)] = .ok e' h')
  {ρ : Map} {w : World} {a : Act} {ro : Option Nat} {Q : Exit → Act → World → Prop} (hr : HR ρ h w) (wf : WF h) (fr : FreeUp c ρ h) (er : ER ρ e a.tmps sz)
  (hQ : ∀ a' w' ρ', Good ρ h w ρ' h' w' → ER ρ' e' a'.tmps sz → a'.defers = a.defers → Q .normal a' w') : (Code.region id ops true).wpIn (wideR ro) 0 c.P Q a w := by
 obtain ⟨st, hcov, _⟩ := plan_static2 hl hp
 obtain ⟨tr, t1, t2, t3, t4, t5⟩ := trace_of hd
 refine wpIn_region_any hm ?_
 have hcut : cut ρ h.nxt = ρ := by
  refine Map.same (fun i => ?_) rfl rfl
  by_cases hi : i < h.nxt
  ·exact cut_lt hi
  ·rw [cut_ge (by omega), fr.1 i (by omega)]
 have hnone : ∀ i, ¬ isIn (Array.replicate ops.size false) i := fun i hi => by
  unfold isIn at hi
  rw [Array.getD_eq_getD_getElem?, Array.getElem?_replicate] at hi
  split at hi <;> simp at hi
 refine any_ok st (tr := tr) (ρ0 := ρ) (w0 := w) (a0 := a) k ha (by simpa using hcov) (by rw [t2]; exact fr.2) (fun a' w' ρ' g1 g2 g3 => ?_) ops.size _ a _ 0 ρ ?_ ?_ ?_
 ·rw [t2, t5] at g1
  rw [t4] at g2
  exact hQ a' w' ρ' g1 g2 g3
 ·unfold left
  have := List.length_filter_le (fun i => !(Array.replicate ops.size false).getD i false) (List.range ops.size)
  simpa using this
 ·exact fun j _ => hnone j
 ·refine { size := by simp, le := Nat.zero_le _, pre := (fun j s hj => by omega), nowork := fun j s _ _ hi => absurd hi (hnone _), closed := fun i pm j hi => absurd hi (hnone _), good := ?_, base := ⟨h, _, [], t3, (by rw [t2]; exact HLe.refl _)⟩, dom := fun i p hi => ?_, early := (fun j s _ _ hi => absurd hi (hnone _)), tsz := er.1, slot0 := fun t _ => by rw [t1]; exact er.2 t, slot1 := fun j s t _ hi => absurd hi (hnone _), defers := rfl }
  ·rw [t2, hcut]
   exact (Good.refl hr wf).draw rfl ⟨rfl, rfl, rfl, Nat.le_refl _⟩
  ·left
   rw [t2]
   by_cases h1 : i < h.nxt
   ·exact h1
   ·rw [fr.1 i (by omega)] at hi; cases hi
/-! ## such a region whose last operations come one by one -/
theorem wpOpIn_mono {F : Fence} {n : Nat} {P : Program} {ops : Array Oper} {Q : Exit → Act → World → Prop} {i : Nat} {K K' : Act → World → Prop} {a : Act} {w : World} (h : ∀ a w, K a w → K' a w) (q : wpOpIn F n P ops Q i K a w) : wpOpIn F n P ops Q i K' a w := by
 unfold wpOpIn at *
 split at q
 ·exact h _ _ q
 ·split at q
  ·rename_i hw
   rw [if_pos hw]
   exact Oper.wpIn_mono h q
  ·rename_i hw
   rw [if_neg hw]
   exact ⟨q.1, h _ _ q.2⟩
/-! ## contracts for calls within such a region -/
structure Ent (c : Ctx) where
 f : FuncId
 α : Type
 enc : α → List AV
 out : α → AV
 ok : ∀ a, KOk c f (enc a) (out a)
 dat : ∀ a, datsB (enc a) = true
 uniq : ∀ a b, enc a = enc b → out a = out b
open Classical in
noncomputable def pans {c : Ctx} : List (Ent c) → FuncId → List AV → Option AV
 | [], _, _ => none
 | E :: r, g, args => if hh : E.f = g ∧ ∃ a, E.enc a = args then some (E.out (Classical.choose hh.2)) else pans r g args
noncomputable def papp {c : Ctx} (tb : List (Ent c)) : App := fun t args h => match t with
 | .f g => (match pans tb g args with | some v => .ok v h | none => .bad [])
 | .y _ => .bad []
theorem pans_ok {c : Ctx} : ∀ {tb : List (Ent c)} {g : FuncId} {args : List AV} {v : AV}, pans tb g args = some v → KOk c g args v ∧ datsB args = true
 | [], _, _, _, h => by cases h
 | E :: r, g, args, v, h => by
  unfold pans at h
  split at h
  ·rename_i hh
   cases h
   have hc := Classical.choose_spec hh.2
   generalize Classical.choose hh.2 = a at hc
   have h1 := E.ok a
   have h2 := E.dat a
   obtain ⟨hg, _⟩ := hh
   subst hg
   subst hc
   exact ⟨h1, h2⟩
  ·exact pans_ok h
theorem pans_hd {c : Ctx} {E : Ent c} {r : List (Ent c)} (a : E.α) {g : FuncId} (hg : E.f = g) {args : List AV} (h : E.enc a = args) : pans (E :: r) g args = some (E.out a) := by
 have hh : E.f = g ∧ ∃ a, E.enc a = args := ⟨hg, a, h⟩
 unfold pans
 rw [dif_pos hh]
 congr 1
 exact E.uniq _ _ ((Classical.choose_spec hh.2).trans h.symm)
theorem papp_ok {c : Ctx} (tb : List (Ent c)) : AppOk c (papp tb) := by
 intro t args h v h' he ρ w A hr wf fr hA
 cases t with
 | y l => cases he
 | f g =>
  have he' : (match pans tb g args with | some v => Ans.ok v h | none => .bad []) = .ok v h' := he
  split at he'
  ·rename_i u hu
   cases he'
   obtain ⟨h1, h2⟩ := pans_ok hu
   obtain ⟨nx, w1, q1, q2⟩ := h1 ρ.F w A hr.fz (dats_ok args h2 hA)
   refine ⟨nx, w1, q1, q2.mono fun z w' ⟨e, F', f1, f2, f3, f4⟩ => ⟨⟨ρ.m, F', ρ.V⟩, (Good.refl hr wf).frz e.1 e.2 f1 f2 f3, ?_⟩⟩
   exact VR.mono (ρ := fzm F') (σ := ⟨ρ.m, F', ρ.V⟩) ⟨(fun _ _ e => by cases e), fun _ _ _ e => e, (fun _ _ _ e => by cases e)⟩ v f4
  ·cases he'
/-! ## such a region, from known slots -/
noncomputable def chkOrd (c : Ctx) (ops : List Oper) (ord : List Nat) : Bool :=
 match stepsOf c ops (masks ops []) ord with
 | some L => planOk ops (masks ops []) (writers ops .leaf 0) (Nat.pred (bit1 ops.length)) L 0
 | none => false
noncomputable def drawn : Code → List (List Oper)
 | .seq a b => drawn a ++ drawn b
 | .cond _ a b => drawn a ++ drawn b
 | .block _ a => drawn a
 | .loop a => drawn a
 | .scope a => drawn a
 | .rangeFunc _ _ a b => drawn a ++ drawn b
 | .region _ ops d => if d then [ops.toList] else []
 | _ => []
structure Dr (X : Cx) (sz : Nat) (rd : Option Nat) (tb : List (Ent X.c)) (all : Array Oper) (ord : List Nat) (k : List It) (L : List (Nat × AV)) (h : Heap) (hb : Option Heap) (m : List Nat) (Q : Post) : Prop where
 run : ∀ e, Has e L → ∀ S, stepsOf X.c all.toList (masks all.toList []) ord = some S → ∀ bs : List (Heap × Nat), bs ≠ [] → (∀ g ∈ bs, ∀ x, hb = some x → g.1 = x) →
  ∃ e' h', runPs X.c (papp tb) sz all.toList S e h bs = .ok e' h' ∧ ArrKeep h h' ∧ RunK X sz rd k Q .normal ⟨e', h', m⟩
section
variable {X : Cx} {tb0 : List (Nat × TE)} {sz : Nat} {rd : Option Nat} {tb : List (Ent X.c)} {all : Array Oper} {ord : List Nat} {k : List It} {L : List (Nat × AV)} {h : Heap} {hb : Option Heap} {m : List Nat} {Q : Post}
theorem Go.draw (E : Env X.c tb0) (hm : X.c.P.follows .mixedOrders = true) (tb : List (Ent X.c)) (ord : List Nat) {id : Nat} (hc : chkOrd X.c all.toList ord = true) (n : Dr X sz rd tb all ord k L h (some h) m Q) : Go X sz rd (.code (.region id all true) :: k) L h m Q := ⟨fun e he => by
 unfold chkOrd at hc
 split at hc
 ·rename_i S hS
  intro ro ρ w a Q' h1 h2 h3 h4 h5
  obtain ⟨e', h', q1, q2, q3⟩ := n.run e he S hS [(h, all.toList.length)] (by simp) (fun g hg x hx => by cases hx; simp at hg; rw [hg])
  refine draw_sound2 E.k hm (papp_ok tb) hS hc q1 h2.hr h2.wf h2.fr h3 fun a' w' ρ' g er dd => ?_
  exact h5 .normal ⟨e', h', m⟩ a' w' ρ' q3 (h1.mono g.sub) (h2.good g q2) er (by rw [dd]; exact h4.mono g.sub)
 ·cases hc⟩
theorem Dr.nil (n : Go X sz rd k L h m Q) : Dr X sz rd tb all [] k L h hb m Q := ⟨fun e he S hS bs _ _ => by
 have hS' : some [] = some S := hS
 cases hS'
 exact ⟨e, h, rfl, ArrKeep.refl h, n.run e he⟩⟩
theorem steps_cons {c : Ctx} {ops : List Oper} {ms : List Nat} {i : Nat} {r : List Nat} {S : List PStep} (hS : stepsOf c ops ms (i :: r) = some S) {o : Oper} (ho : nth1 ops i = some o) : ∃ pm S', S = ⟨i, o, cls c o.op, pm⟩ :: S' ∧ stepsOf c ops ms r = some S' := by
 have hS' : (match nth ops i with
   | some o => (match nth ms i with
    | some pm => (match stepsOf c ops ms r with | some r => some (⟨i, o, cls c o.op, pm⟩ :: r) | none => none)
    | none => none)
   | none => none) = some S := hS
 rw [nth1_eq] at ho
 rw [nth_eq, ho] at hS'
 simp only [] at hS'
 split at hS'
 ·rename_i pm _
  split at hS'
  ·rename_i S' hS''
   cases hS'
   exact ⟨pm, S', rfl, hS''⟩
  ·cases hS'
 ·cases hS'
theorem runPs_cons (c : Ctx) (app : App) (sz : Nat) (ops : List Oper) (s : PStep) (l : List PStep) (e : T AV) (h : Heap) (bs : List (Heap × Nat)) :
  runPs c app sz ops (s :: l) e h bs = (match runP c app sz ops s e h bs with | .ok e' h' bs' => runPs c app sz ops l e' h' bs' | .bad l => .bad l) := rfl
theorem setR_some {e : T AV} {d : Nat} {v : AV} {bs : List (Heap × Nat)} (hs : Nat.ble (d + 1) sz = true) : setR e (some d) v sz h bs = .ok (e.set und d v) h bs := by unfold setR; simp only [hs]
theorem Dr.step {i : Nat} {o : Oper} (ho : nth1 all.toList i = some o) {L' : List (Nat × AV)} {h' : Heap} {hb' : Option Heap} (ha : ArrKeep h h')
  (H : ∀ e pm bs, Has e L → bs ≠ [] → (∀ g ∈ bs, ∀ x, hb = some x → g.1 = x) → ∃ e' bs', runP X.c (papp tb) sz all.toList ⟨i, o, cls X.c o.op, pm⟩ e h bs = .ok e' h' bs' ∧ Has e' L' ∧ bs' ≠ [] ∧ (∀ g ∈ bs', ∀ x, hb' = some x → g.1 = x))
  (n : Dr X sz rd tb all ord k L' h' hb' m Q) : Dr X sz rd tb all (i :: ord) k L h hb m Q := ⟨fun e he S hS bs h1 h2 => by
 obtain ⟨pm, S', rfl, hS'⟩ := steps_cons hS ho
 obtain ⟨e1, bs1, q1, q2, q3, q4⟩ := H e pm bs he h1 h2
 obtain ⟨e2, h2', r1, r2, r3⟩ := n.run e1 q2 S' hS' bs1 q3 q4
 exact ⟨e2, h2', by rw [runPs_cons, q1]; exact r1, ha.trans r2, r3⟩⟩
theorem Dr.pure {i : Nat} {o : Oper} {d : Nat} {v : AV} (ho : nth1 all.toList i = some o) (hc : cls X.c o.op = .pure) (hd : o.dst = some d) (hs : Nat.ble (d + 1) sz = true) (hw : Want all L o true) (hop : Hop X L h o v h) (n : Dr X sz rd tb all ord k ((d, v) :: L) h hb m Q) : Dr X sz rd tb all (i :: ord) k L h hb m Q :=
 Dr.step ho (ArrKeep.refl h) (fun e pm bs he h1 h2 => ⟨e.set und d v, bs, by unfold runP; simp only [hw e he, hc, hop e he]; rw [hd]; exact setR_some hs, he.set d v, h1, h2⟩) n
theorem lightV_all {c : Ctx} {e : T AV} {s : PStep} {x : Heap} {v : AV} (hx : opA c e x s.o.op = some (.v v x)) : ∀ {bs : List (Heap × Nat)} {p : Option AV}, (∀ g ∈ bs, g.1 = x) → (p = some v ∨ (p = none ∧ bs ≠ [])) → lightV c e s bs p = some v
 | [], p, _, hp => by
  rcases hp with rfl | ⟨_, h⟩
  ·rfl
  ·exact absurd rfl h
 | g :: bs, p, hg, hp => by
  have h0 : g.1 = x := hg g List.mem_cons_self
  show (match opA c e g.1 s.o.op with
   | some (.v v _) => (match agree p v with
    | true => (match bitB s.pm g.2 with | true => some v | false => lightV c e s bs (some v))
    | false => none)
   | _ => none) = some v
  rw [h0, hx]
  simp only []
  have ha : agree p v = true := by
   rcases hp with rfl | ⟨rfl, _⟩
   ·exact agree_eq.2 rfl
   ·rfl
  rw [ha]
  simp only []
  split
  ·rfl
  ·exact lightV_all hx (fun y hy => hg y (List.mem_cons_of_mem _ hy)) (.inl rfl)
theorem Dr.light {i : Nat} {o : Oper} {d : Nat} {v : AV} {x : Heap} (ho : nth1 all.toList i = some o) (hc : cls X.c o.op = .light) (hd : o.dst = some d) (hs : Nat.ble (d + 1) sz = true) (hw : Want all L o true) (hop : Hop X L x o v x) (n : Dr X sz rd tb all ord k ((d, v) :: L) h (some x) m Q) : Dr X sz rd tb all (i :: ord) k L h (some x) m Q :=
 Dr.step ho (ArrKeep.refl h) (fun e pm bs he h1 h2 => ⟨e.set und d v, bs, by
  unfold runP; simp only [hw e he, hc]
  rw [lightV_all (s := ⟨i, o, .light, pm⟩) (hop e he) (fun g hg => h2 g hg x rfl) (.inr ⟨rfl, h1⟩)]
  simp only []
  rw [hd]; exact setR_some hs, he.set d v, h1, h2⟩) n
theorem Dr.call {i : Nat} {o : Oper} {d : Nat} {v : AV} {cl : Call} {f : Operand} {g : FuncId} {vs : List AV} (ho : nth1 all.toList i = some o) (hcl : cls X.c o.op = .work) (hd : o.dst = some d) (hs : Nat.ble (d + 1) sz = true) (hw : Want all L o true) (hop : o.op = .call cl) (hc : cl.callee = .value f) (hf : evL L f = some (.fn (.func g) [] []))
  (hv : evsL L cl.args.toList = some vs) (hk : pans tb g vs = some v) (n : Dr X sz rd tb all ord k ((d, v) :: L) h (some h) m Q) : Dr X sz rd tb all (i :: ord) k L h (some h) m Q :=
 Dr.step ho (ArrKeep.refl h) (fun e pm bs he h1 h2 => ⟨e.set und d v, (h, i) :: bs, by
  unfold runP; simp only [hw e he, hcl]
  have h3 : opA X.c e h o.op = some (.go (.f g) vs h) := by
   rw [hop]; simp only [opA, oCall, hc]; rw [he.ev hf, he.evs hv]; simp
  rw [h3]
  simp only [papp, hk]
  rw [Nat.ble_eq_true_of_le (Nat.le_refl _)]
  simp only []
  rw [hd]; exact setR_some hs, he.set d v, by simp, fun y hy x hx => by
   rcases List.mem_cons.1 hy with rfl | hy
   ·cases hx; rfl
   ·exact h2 y hy x hx⟩) n
theorem Dr.store {i : Nat} {o : Oper} {v : AV} {h' : Heap} (ho : nth1 all.toList i = some o) (hcl : cls X.c o.op = .work) (hd : o.dst = none) (hw : Want all L o true) (hop : Hop X L h o v h') (ha : ArrKeep h h') (hn : Nat.ble h.nxt h'.nxt = true) (n : Dr X sz rd tb all ord k L h' none m Q) : Dr X sz rd tb all (i :: ord) k L h hb m Q :=
 Dr.step ho ha (fun e pm bs he h1 h2 => ⟨e, (h', i) :: bs, by
  unfold runP; simp only [hw e he, hcl, hop e he, hn]
  rw [hd]; rfl, he, by simp, fun y hy x hx => by cases hx⟩) n
end
end Go.Px
end
section
namespace Go.Px
/-! ## what speaks of a place -/
mutual
def indB (k : Nat) : AV → Bool
 | .ptr i _ => !Nat.beq i k
 | .sl i _ _ _ _ => !Nat.beq i k
 | .esl i => !Nat.beq i k
 | .mp i => !Nat.beq i k
 | .fn f a b => (match (match f with | .yield l => !Nat.beq l k | _ => true) with | true => (match indsB k a with | true => indsB k b | false => false) | false => false)
 | .ifc _ a => indB k a
 | .agg l => indsB k l
 | .tup l => indsB k l
 | _ => true
def indsB (k : Nat) : List AV → Bool
 | [] => true
 | a :: l => (match indB k a with | true => indsB k l | false => false)
end
structure SubX (k : Nat) (ρ σ : Map) : Prop where
 m : ∀ i p, i ≠ k → ρ i = some p → σ i = some p
 F : ∀ (b j : Nat) (x : Value), (ρ.F b)[j]? = some x → (σ.F b)[j]? = some x
 V : ∀ (j n : Nat) (v : Value), ρ.V j n = some v → σ.V j n = some v
theorem SubX.d {k : Nat} {ρ σ : Map} (h : SubX k ρ σ) : Sub ρ.d σ.d := ⟨(fun _ _ e => by cases e), h.F, (fun _ _ _ e => by cases e)⟩
theorem SubX.fz {k : Nat} {ρ σ : Map} (h : SubX k ρ σ) {B o : Nat} {L : List Value} (q : Fz ρ B o L) : Fz σ B o L := fun j x e => h.F B _ x (q j x e)
theorem nb {i k : Nat} (h : (!Nat.beq i k) = true) : i ≠ k := fun e => by subst e; simp at h
mutual
theorem ind_ok {k : Nat} {ρ σ : Map} (s : SubX k ρ σ) : ∀ (a : AV) {v : Value}, indB k a = true → VR ρ a v → VR σ a v
 | .bad, _, _, _ => by simp [VR]
 | .bool b, _, _, q => by simpa [VR] using q
 | .int _ _, _, _, q => by simpa [VR] using q
 | .str l, _, _, q => by simpa [VR] using q
 | .nilptr, _, _, q => by simpa [VR] using q
 | .ptr i o, v, h, q => by
  simp only [indB] at h
  simp only [VR] at q ⊢
  obtain ⟨B, N, e, r⟩ := q; exact ⟨B, N, s.m i _ (nb h) e, r⟩
 | .nilsl, _, _, q => by simpa [VR] using q
 | .sl i o l c z, v, h, q => by
  simp only [indB] at h
  simp only [VR] at q ⊢
  obtain ⟨B, N, C, e, r⟩ := q; exact ⟨B, N, C, s.m i _ (nb h) e, r⟩
 | .esl i, v, h, q => by
  simp only [indB] at h
  simp only [VR] at q ⊢
  obtain ⟨B, N, o, C, e, r⟩ := q; exact ⟨B, N, o, C, s.m i _ (nb h) e, r⟩
 | .nilmp, _, _, q => by simpa [VR] using q
 | .mp i, v, h, q => by
  simp only [indB] at h
  simp only [VR] at q ⊢
  obtain ⟨B, N, e, r⟩ := q; exact ⟨B, N, s.m i _ (nb h) e, r⟩
 | .nilfn, _, _, q => by simpa [VR] using q
 | .fn f a b, v, h, q => by
  have h' := h
  simp only [indB] at h'
  split at h'
  ·rename_i hf
   split at h'
   ·rename_i ha
    simp only [VR] at q ⊢
    obtain ⟨f', F, C, e1, e2, e3, e4⟩ := q
    refine ⟨f', F, C, ?_, inds_ok s a ha e2, inds_ok s b h' e3, e4⟩
    cases f <;> simp only [FR] at e1 ⊢
    all_goals first | exact e1 | (obtain ⟨B, N, e, r⟩ := e1; exact ⟨B, N, s.m _ _ (nb hf) e, r⟩)
   ·cases h'
  ·cases h'
 | .nilifc, _, _, q => by simpa [VR] using q
 | .ifc t a, v, h, q => by
  simp only [indB] at h
  simp only [VR] at q ⊢
  obtain ⟨x, e, r⟩ := q; exact ⟨x, ind_ok s a h e, r⟩
 | .agg l, v, h, q => by
  simp only [indB] at h
  simp only [VR] at q ⊢
  obtain ⟨x, e, r⟩ := q; exact ⟨x, inds_ok s l h e, r⟩
 | .tup l, v, h, q => by
  simp only [indB] at h
  simp only [VR] at q ⊢
  obtain ⟨x, e, r⟩ := q; exact ⟨x, inds_ok s l h e, r⟩
 | .gptr g o, _, _, q => by simpa [VR] using q
 | .anyb, _, _, q => by simpa [VR] using q
 | .big n, _, _, q => by simpa [VR] using q
 | .low n, _, _, q => by simpa [VR] using q
 | .anyi, _, _, q => by simpa [VR] using q
 | .rsl n z l, v, h, q => by
  simp only [VR] at q ⊢
  obtain ⟨h0, q | ⟨B, o, C, L, e1, e2, e3, e4⟩⟩ := q
  ·exact ⟨h0, .inl q⟩
  ·exact ⟨h0, .inr ⟨B, o, C, L, e1, e2, VRs.mono s.d l e3, s.fz e4⟩⟩
 | .rptr l, v, h, q => by
  simp only [VR] at q ⊢
  obtain ⟨B, o, L, e1, e3, e4⟩ := q
  exact ⟨B, o, L, e1, VRs.mono s.d l e3, s.fz e4⟩
 | .csl, _, _, q => by simpa [VR] using q
 | .own i n z, v, h, q => by simp only [VR] at q ⊢; exact ⟨s.V _ _ _ q.1, q.2⟩
 | .optr i n o, v, h, q => by
  simp only [VR] at q ⊢
  obtain ⟨B, C, e1, e2⟩ := q
  exact ⟨B, C, s.V _ _ _ e1, e2⟩
theorem inds_ok {k : Nat} {ρ σ : Map} (s : SubX k ρ σ) : ∀ (l : List AV) {L : List Value}, indsB k l = true → VRs ρ l L → VRs σ l L
 | [], _, _, q => by simpa [VRs] using q
 | a :: l, L, h, q => by
  have h' := h
  simp only [indsB] at h'
  split at h'
  ·rename_i ha
   simp only [VRs] at q ⊢
   obtain ⟨x, r, e1, e2, e3⟩ := q
   exact ⟨x, r, ind_ok s a ha e1, inds_ok s l h' e2, e3⟩
  ·cases h'
end
def datEs : List (AV × AV × Nat) → Bool
 | [] => true
 | p :: r => (match datB p.1 with | true => (match datB p.2.1 with | true => datEs r | false => false) | false => false)
theorem datEs_at : ∀ {es : List (AV × AV × Nat)} {i : Nat} {p : AV × AV × Nat}, datEs es = true → es[i]? = some p → datB p.1 = true ∧ datB p.2.1 = true
 | [], i, p, _, e => by simp at e
 | x :: r, i, p, h, e => by
  simp only [datEs] at h
  split at h
  ·rename_i h1
   split at h
   ·rename_i h2
    cases i with
    | zero => simp at e; subst e; exact ⟨h1, h2⟩
    | succ i => exact datEs_at (es := r) h (by simpa using e)
   ·cases h
  ·cases h
theorem MapR.dat {ρ σ : Map} (s : Sub ρ.d σ.d) {es : List (AV × AV × Nat)} {ES : List MapEntry} (h : datEs es = true) (q : MapR ρ es ES) : MapR σ es ES :=
 ⟨q.1, fun i p e h1 h2 => by
  obtain ⟨a, b, c⟩ := q.2 i p e h1 h2
  obtain ⟨d1, d2⟩ := datEs_at h h1
  exact ⟨VR.mono (Sub.low σ) _ (VR.mono s _ (dat_ok _ d1 a)), VR.mono (Sub.low σ) _ (VR.mono s _ (dat_ok _ d2 b)), c⟩⟩
def ABInd (k : Nat) (b : AB) : Prop :=
 match b with
 | .none => True
 | .row r => ((List.range r.n).all fun j => indB k (r.get j)) = true
 | .loop l => ∃ lst, l.e = T.put und lst .leaf 0 ∧ indsB k lst = true ∧ l.defers ≠ k
 | .dfr _ => True
 | .arr _ _ _ _ => True
 | .map es _ => datEs es = true
 | _ => False
theorem put_ind {k : Nat} : ∀ {lst : List AV}, indsB k lst = true → ∀ t, indB k ((T.put und lst (.leaf : T AV) 0).get und t) = true := fun {lst} h t => by
 rw [get_put]
 simp only [Nat.zero_le, if_true, Nat.sub_zero, get_leaf]
 have key : ∀ (l : List AV), indsB k l = true → ∀ (i : Nat) (a : AV), l[i]? = some a → indB k a = true := by
  intro l
  induction l with
  | nil => intro _ i a q; simp at q
  | cons x l ih =>
   intro h i a q
   simp only [indsB] at h
   split at h
   ·rename_i hx
    cases i with
    | zero => simp at q; subst q; exact hx
    | succ i => exact ih h i a (by simpa using q)
   ·cases h
 cases hq : lst[t]? with
 | none => rfl
 | some a => exact key lst h t a hq
theorem ABR.ind {k : Nat} {ρ σ : Map} (s : SubX k ρ σ) {b : AB} (hb : ABInd k b) {B N : Nat} {w : World} (h : ABR ρ b B N w) : ABR σ b B N w := by
 cases b with
 | none => trivial
 | row r =>
  refine ⟨h.1, h.2.1, h.2.2.1, fun j hj => ?_⟩
  obtain ⟨v, a, q⟩ := h.2.2.2 j hj
  exact ⟨v, a, ind_ok s _ (List.all_eq_true.1 hb j (List.mem_range.2 hj)) q⟩
 | loop l =>
  obtain ⟨lst, e1, e2, e3⟩ := hb
  obtain ⟨fn, tm, D, M, a, q, r⟩ := h
  refine ⟨fn, tm, D, M, a, ⟨q.1, fun t => ?_⟩, s.m _ _ e3 r⟩
  have := q.2 t
  rw [e1] at this ⊢
  exact ind_ok s _ (put_ind e2 t) this
 | dfr b => exact h
 | arr t z n l => exact RowOk.mono h s.d
 | map es c => obtain ⟨ES, e1, e2⟩ := h; exact ⟨ES, e1, e2.dat s.d hb⟩
 | sit l p => exact hb.elim
 | mit m a b c => exact hb.elim
 | gl r => exact hb.elim
def allN (n : Nat) (p : Nat → Prop) : Prop := match n with | 0 => True | n + 1 => p n ∧ allN n p
theorem allN_at {p : Nat → Prop} : ∀ {n i : Nat}, allN n p → i < n → p i
 | n + 1, i, h, hi => by
  by_cases e : i = n
  ·subst e; exact h.1
  ·exact allN_at h.2 (by omega)
def HInd (k : Nat) (h : Heap) : Prop := allN h.nxt fun i => i = k ∨ ABInd k (h.get i)
theorem HInd.at_ {k : Nat} {h : Heap} (q : HInd k h) (wf : WF h) {i : Nat} (hi : i ≠ k) : ABInd k (h.get i) := by
 by_cases e : i < h.nxt
 ·rcases allN_at q e with r | r
  ·exact absurd r hi
  ·exact r
 ·rw [wf.fresh i (by omega)]; trivial
def indL (k : Nat) : List (Nat × AV) → Bool
 | [] => true
 | (_, v) :: r => (match indB k v with | true => indL k r | false => false)
theorem indL_at {k : Nat} : ∀ {L : List (Nat × AV)}, indL k L = true → ∀ t v, lkO L t = some v → indB k v = true
 | [], _, t, v, q => by cases q
 | (s, u) :: r, h, t, v, q => by
  simp only [indL] at h
  split at h
  ·rename_i hu
   unfold lkO at q
   split at q
   ·cases q; exact hu
   ·exact indL_at h t v q
  ·cases h
theorem known_env {σ : Map} {tm : Array Value} {sz : Nat} {L : List (Nat × AV)} (hsz : tm.size = sz) (H : ∀ t v, lkO L t = some v → VR σ v (tm.getD t undef)) : ∃ e', Has e' L ∧ ER σ e' tm sz := by
 let E : T AV := T.put und ((List.range (sz + 1 + (L.map (·.1)).foldr max 0)).map fun t => (match lkO L t with | some v => v | none => .bad)) .leaf 0
 have hE : ∀ t v, lkO L t = some v → E.get und t = v := fun t v q => by
  have ht : t ≤ (L.map (·.1)).foldr max 0 := by
   clear hsz H E
   induction L with
   | nil => cases q
   | cons p r ih =>
    obtain ⟨s, u⟩ := p
    unfold lkO at q
    simp only [List.map_cons, List.foldr_cons]
    split at q
    ·rename_i hs; have := beqT hs; omega
    ·have := ih q; omega
  show (T.put und _ .leaf 0).get und t = v
  rw [get_put]
  simp only [Nat.zero_le, if_true, Nat.sub_zero]
  rw [List.getElem?_map, List.getElem?_range (by omega)]
  simp [q]
 have hB : ∀ t, lkO L t = none → E.get und t = .bad ∨ (sz < t ∧ E.get und t = und) := fun t q => by
  show (T.put und _ .leaf 0).get und t = .bad ∨ (sz < t ∧ (T.put und _ .leaf 0).get und t = und)
  rw [get_put]
  simp only [Nat.zero_le, if_true, Nat.sub_zero, get_leaf]
  by_cases ht : t < sz + 1 + (L.map (·.1)).foldr max 0
  ·left
   rw [List.getElem?_map, List.getElem?_range ht]
   simp [q]
  ·right
   rw [List.getElem?_eq_none (by simp; omega)]
   exact ⟨by omega, rfl⟩
 refine ⟨E, hE, hsz, fun t => ?_⟩
 cases hl : lkO L t with
 | some v =>
  rw [hE t v hl]
  exact H t v hl
 | none =>
  rcases hB t hl with q | ⟨q1, q2⟩
  ·rw [q]; simp [VR]
  ·rw [q2]
   have : tm.getD t undef = undef := by rw [Array.getD_eq_getD_getElem?, Array.getElem?_eq_none (by omega)]; rfl
   rw [this]; exact und_ok σ
/-! ## an array of one's own, turned -/
theorem WF.putArr {h : Heap} (wf : WF h) {i : Nat} {b b' : AB} (hb : h.get i = b) (h1 : b.isRow = false) (h2 : b' = .none ∨ b ≠ .none) (h3 : b'.isRow = false) : WF (h.put i b') := by
 have hg : ∀ j, j ≠ i → (h.put i b').get j = h.get j := fun j k => by rw [Heap.get_put, if_neg k]
 have hn : (h.put i b').get i = b' := by rw [Heap.get_put, if_pos rfl]
 refine ⟨fun j hj => ?_, fun j r q e1 e2 => ?_, fun j r q t e1 e2 e3 => ?_, wf.tipr⟩
 ·by_cases hj2 : j = i
  ·subst hj2
   rw [hn]
   rcases h2 with q | q
   ·exact q
   ·exact absurd (hb.symm.trans (wf.fresh j hj)) q
  ·rw [hg j hj2]; exact wf.fresh j hj
 ·by_cases hj : j = i
  ·subst hj; rw [hn] at e1; subst e1; simp [AB.isRow] at h3
  ·rw [hg j hj] at e1; exact wf.root j r q e1 e2
 ·by_cases hj : j = i
  ·subst hj; rw [hn] at e1; subst e1; simp [AB.isRow] at h3
  ·rw [hg j hj] at e1
   obtain ⟨s, a, c⟩ := wf.tip j r q t e1 e2 e3
   refine ⟨s, ?_, c⟩
   rw [hg t (fun k => by subst k; rw [hb] at a; subst a; simp [AB.isRow] at h1)]; exact a
theorem PI.setArr {X : Cx} {ρ : Map} {h : Heap} {w w' : World} (p : PI X ρ h w) {k : Nat} {ty z n n' : Nat} {l l' : List AV} (hk : h.get k = .arr ty z n l) (hi : HInd k h) (hG : indsB k X.gv = true) (hlt : n < n') (hlen : l'.length = n' * z)
  {B N C : Nat} (hC : n' ≤ C) (hN : C * z = N) (hrow : RowOk ρ.d ⟨ty, n' * z, .leaf, l', none⟩ B N w') (hs : Same w w')
  (hcase : ((∃ M, ρ k = some (B, M)) ∧ w'.heap.size = w.heap.size ∧ ∀ D, D ≠ B → w'.heap[D]? = w.heap[D]?) ∨ (B = w.heap.size ∧ w'.heap.size = w.heap.size + 1 ∧ ∀ D, D < w.heap.size → w'.heap[D]? = w.heap[D]?)) :
  ∃ ρ', PI X ρ' (h.put k (.arr ty z n' l')) w' ∧ SubX k ρ ρ' ∧ VR ρ' (.own k n' z) (.slice (some ⟨B, 0, none⟩) n' C) := by
 have hkn : k < h.nxt := by
  rcases Nat.lt_or_ge k h.nxt with q | q
  ·exact q
  ·rw [p.wf.fresh k q] at hk; cases hk
 have hok : h.ok k := by unfold Heap.ok; rw [hk]; trivial
 let ρ' : Map := ⟨fun i => if i = k then some (B, N) else ρ i, ρ.F, fun j q => if j = k ∧ q = n' then some (.slice (some ⟨B, 0, none⟩) n' C) else ρ.V j q⟩
 have m1 : ρ' k = some (B, N) := if_pos rfl
 have m2 : ∀ i, i ≠ k → ρ' i = ρ i := fun i q => if_neg q
 have v1 : ρ'.V k n' = some (.slice (some ⟨B, 0, none⟩) n' C) := if_pos ⟨rfl, rfl⟩
 have v2 : ∀ j q, ¬ (j = k ∧ q = n') → ρ'.V j q = ρ.V j q := fun j q a => if_neg a
 have sx : SubX k ρ ρ' := by
  refine ⟨fun i p' q e => by rw [m2 i q]; exact e, fun _ _ _ e => e, fun j q v e => ?_⟩
  by_cases hh : j = k ∧ q = n'
  ·obtain ⟨rfl, rfl⟩ := hh
   rw [p.vu j ty z n l hk q hlt] at e; cases e
  ·rw [v2 j q hh]; exact e
 have hg : ∀ j, j ≠ k → (h.put k (.arr ty z n' l')).get j = h.get j := fun j q => by rw [Heap.get_put, if_neg q]
 have ho : ∀ j, j ≠ k → ((h.put k (.arr ty z n' l')).ok j ↔ h.ok j) := fun j q => Heap.ok_same (hg j q) (fun _ _ _ _ => rfl)
 have hn : (h.put k (.arr ty z n' l')).get k = .arr ty z n' l' := by rw [Heap.get_put, if_pos rfl]
 have hsz : w.heap.size ≤ w'.heap.size := hs.size
 have other : ∀ j D M, j ≠ k → ρ j = some (D, M) → h.ok j → D ≠ B ∧ w'.heap[D]? = w.heap[D]? := fun j D M hj e q => by
  have hD := p.hr.lt j D M e
  rcases hcase with ⟨⟨M', a⟩, _, b⟩ | ⟨a, _, b⟩
  ·have hne : D ≠ B := fun ee => by
    subst ee
    obtain ⟨r, s, q', x, _⟩ := p.hr.inj k j D M' M (Ne.symm hj) a e hok q
    rw [hk] at x; cases x
   exact ⟨hne, b D hne⟩
  ·exact ⟨by omega, b D hD⟩
 have hFB : ρ.F B = [] := by
  rcases hcase with ⟨⟨M', a⟩, _, _⟩ | ⟨a, _, _⟩
  ·exact p.hr.F_row a hok (fun r => by rw [hk]; exact fun q => by cases q)
  ·exact Classical.byContradiction fun q => by have := p.hr.F_lt q; omega
 have hfz : ∀ D, D < w.heap.size → ρ.F D ≠ [] → w'.heap[D]? = w.heap[D]? := fun D hD q => by
  have hne : D ≠ B := fun e => q (e ▸ hFB)
  rcases hcase with ⟨_, _, b⟩ | ⟨_, _, b⟩
  ·exact b D hne
  ·exact b D hD
 have hBlt : B < w'.heap.size := by
  rcases hcase with ⟨⟨M', a⟩, b, _⟩ | ⟨a, b, _⟩
  ·rw [b]; exact p.hr.lt k B M' a
  ·omega
 have hBge : ¬ X.shut B := by
  rcases hcase with ⟨⟨M', a⟩, _, _⟩ | ⟨a, _, _⟩
  ·exact p.mine k B M' a
  ·intro q; have := q.1; have := p.ext.1.size; omega
 refine ⟨ρ', ⟨⟨?_, ?_, ?_, ?_, ?_, ?_, ?_⟩, p.wf.putArr hk rfl (.inr (by simp)) rfl, ⟨fun i hi => ?_, fun i r q => ?_⟩, fun i hi q => ?_, fun i t' z' m' l2 e q hq => ?_, ⟨p.ext.1.trans hs, fun b hb => ?_⟩, fun i D M e => ?_, p.sub, p.old, inds_ok sx _ hG p.keep, p.gh.go (fun t z m l2 e => ?_) hs (fun b hb hno => ?_) (fun i D M e o => ?_) (fun _ _ _ => rfl) (fun D M e => ?_) (fun D q => hfz D (p.hr.F_lt q) q) (fun _ _ _ e => e) (fun v e => sx.V _ _ _ e)⟩, sx, ?_⟩
 ·intro i D M e
  by_cases q : i = k
  ·subst q; rw [m1] at e; cases e; exact hBlt
  ·rw [m2 i q] at e; exact Nat.lt_of_lt_of_le (p.hr.lt i D M e) hsz
 ·intro i D M e q
  by_cases hik : i = k
  ·subst hik; rw [m1] at e; cases e; rw [hn]
   exact RowOk.mono hrow (Sub.refl _)
  ·rw [m2 i hik] at e
   rw [hg i hik]
   have q' := (ho i hik).1 q
   exact ((p.hr.ok i D M e q').block (other i D M hik e q').2).ind sx (hi.at_ p.wf hik)
 ·intro i j D M M' hij e1 e2 k1 k2
  by_cases hik : i = k
  ·subst hik; rw [m1] at e1; cases e1
   rw [m2 j (Ne.symm hij)] at e2
   exact absurd rfl (other j _ _ (Ne.symm hij) e2 ((ho j (Ne.symm hij)).1 k2)).1
  ·by_cases hjk : j = k
   ·subst hjk; rw [m1] at e2; cases e2
    rw [m2 i hik] at e1
    exact absurd rfl (other i _ _ hik e1 ((ho i hik).1 k1)).1
   ·rw [m2 i hik] at e1
    rw [m2 j hjk] at e2
    obtain ⟨r, s, q, a, b, c⟩ := p.hr.inj i j D M M' hij e1 e2 ((ho i hik).1 k1) ((ho j hjk).1 k2)
    exact ⟨r, s, q, by rw [hg i hik]; exact a, by rw [hg j hjk]; exact b, c⟩
 ·intro i r e
  by_cases hik : i = k
  ·subst hik; rw [hn] at e; cases e
  ·rw [hg i hik] at e
   obtain ⟨M, hM⟩ := p.hr.gl i r e
   exact ⟨M, by rw [m2 i hik]; exact hM⟩
 ·exact p.hr.fz_of hfz
 ·intro i D M e q
  by_cases hik : i = k
  ·subst hik; rw [m1] at e; cases e; exact .inl hFB
  ·rw [m2 i hik] at e
   rw [hg i hik]
   exact p.hr.sep i D M e ((ho i hik).1 q)
 ·intro i t' z' m' l2 e
  by_cases hik : i = k
  ·subst hik; rw [hn] at e; cases e
   exact ⟨hlen, .inr ⟨B, N, C, m1, v1, hC, hN⟩⟩
  ·rw [hg i hik] at e
   obtain ⟨h0, ⟨a, o, b⟩ | ⟨B2, N2, C2, e1, e2, e3⟩⟩ := p.hr.av i t' z' m' l2 e
   ·exact ⟨h0, .inl ⟨a, o, sx.V _ _ _ b⟩⟩
   ·exact ⟨h0, .inr ⟨B2, N2, C2, by rw [m2 i hik]; exact e1, sx.V _ _ _ e2, e3⟩⟩
 ·have hi' : h.nxt ≤ i := hi
  rw [m2 i (by omega)]; exact p.fr.1 i hi'
 ·have := p.fr.2 i r q
  rw [hg i (fun e => by subst e; rw [hk] at this; cases this)]; exact this
 ·have hi' : h.nxt ≤ i := hi
  rw [v2 i q (fun a => by omega)]; exact p.vf i hi' q
 ·by_cases hik : i = k
  ·subst hik; rw [hn] at e; cases e
   rw [v2 i q (fun a => by omega)]; exact p.vu i ty z n l hk q (by omega)
  ·rw [hg i hik] at e
   rw [v2 i q (fun a => hik a.1)]; exact p.vu i t' z' m' l2 e q hq
 ·have hbw := Nat.lt_of_lt_of_le hb.1 p.ext.1.size
  rcases hcase with ⟨_, _, c⟩ | ⟨_, _, c⟩
  ·rw [c b (fun e => hBge (e ▸ hb))]; exact p.ext.2 b hb
  ·rw [c b hbw]; exact p.ext.2 b hb
 ·by_cases q : i = k
  ·subst q; rw [m1] at e; cases e; exact hBge
  ·rw [m2 i q] at e; exact p.mine i D M e
 ·by_cases q : 0 = k
  ·subst q; rw [hn] at e; cases e; exact ⟨_, _, _, hk⟩
  ·rw [hg 0 q] at e; exact ⟨_, _, _, e⟩
 ·rcases hcase with ⟨⟨M', a⟩, _, c⟩ | ⟨_, _, c⟩
  ·exact c b (fun e => hno k M' (e ▸ a) hok)
  ·exact c b hb
 ·by_cases q : i = k
  ·subst q; rw [m1] at e; cases e
   rcases hcase with ⟨⟨M', a⟩, _, _⟩ | ⟨a, _, _⟩
   ·exact .inr ⟨i, M', a, hok⟩
   ·exact .inl (by omega)
  ·rw [m2 i q] at e; exact .inr ⟨i, M, e, (ho i q).1 o⟩
 ·by_cases q : 1 = k
  ·subst q; exact .inr hok
  ·exact .inl ⟨M, by rw [m2 1 q]; exact e⟩
 ·simp only [VR]
  exact ⟨v1, .inr ⟨B, C, rfl, hC⟩⟩
theorem append_own {X : Cx} {ρ : Map} {h : Heap} {w : World} (p : PI X ρ h w) {k : Nat} {el z n : Nat} {l : List AV} (hk : h.get k = .arr el z n l) (hi : HInd k h) (hG : indsB k X.gv = true) {S : Value} (hS : VR ρ (.own k n z) S)
  {P : Program} {ts : Array TypeId} {i : TypeInfo} {Z V : Value} {m : Nat} {news : List Value} (s : Src P w ts i Z V m news) (hz : i.size = z) {ty t : TypeId} (ht0 : ts[0]? = some t) (ht : P.underlying t = some (.slice el)) (hinfo : P.info? el = some i) (rest : List Value)
  {cs : List AV} (hcs : VRs ρ.d cs news) (ho : ∀ v ∈ news, v.oneCell' = true) (hm0 : m ≠ 0) (hsm : n + m ≤ 1000000) :
  ∃ y w' ρ', (Builtin.append_ ts ty (S :: V :: rest).toArray).run P w = .ok y w' ∧ PI X ρ' (h.put k (.arr el z (n + m) (l ++ cs))) w' ∧ SubX k ρ ρ' ∧ VR ρ' (.own k (n + m) z) y := by
 subst hz
 have hcl := hcs.length
 have hnl := s.len
 have hmul : (n + m) * i.size = n * i.size + m * i.size := Nat.add_mul _ _ _
 obtain ⟨hll, _⟩ := p.hr.av k el i.size n l hk
 have hlen : (l ++ cs).length = (n + m) * i.size := by rw [List.length_append, hll, hcl, hnl, hmul]
 have fresh : ∀ (base : Option Addr) (C : Nat) (L : List Value), VRs ρ.d l L → (Builtin.firstCells i.size n (.slice base n C)).run P w.drew = .ok L.toArray w.drew → C < n + m →
   ∃ y w' ρ', (Builtin.append_ ts ty (.slice base n C :: V :: rest).toArray).run P w = .ok y w' ∧ PI X ρ' (h.put k (.arr el i.size (n + m) (l ++ cs))) w' ∧ SubX k ρ ρ' ∧ VR ρ' (.own k (n + m) i.size) y := fun base C L hL hof hg => by
  have hrun := s.grow (ty := ty) ht0 ht hinfo base n C rest L hm0 hof hg hsm
  have hge := grownCap_ge w (n + m) C el
  generalize grownCap w (n + m) C el = G at hrun hge
  have l2 : L.length = n * i.size := by rw [← hL.length]; exact hll
  have hsz : (L.toArray ++ news.toArray ++ Builtin.zeroCells Z.cells (G - (n + m))).size = G * i.size := by
   rw [Array.size_append, zeroCells_size, s.zsize]
   have : (L.toArray ++ news.toArray).size = (n + m) * i.size := by simp [l2, hnl, hmul]
   rw [this, ← Nat.add_mul]; congr 1; omega
  have hGG : (n + m) * i.size ≤ G * i.size := Nat.mul_le_mul_right _ hge
  have hall : ∀ j, j < (L ++ news).length → (L.toArray ++ news.toArray ++ Builtin.zeroCells Z.cells (G - (n + m)))[j]? = (L ++ news)[j]? := fun j hj => by
   rw [Array.getElem?_append_left (by simpa using hj)]; simp
  generalize L.toArray ++ news.toArray ++ Builtin.zeroCells Z.cells (G - (n + m)) = CC at hrun hsz hall
  have hboth := hL.append hcs
  have hl4 : (L ++ news).length = (n + m) * i.size := by rw [← hboth.length]; exact hlen
  obtain ⟨ρ', q1, q2, q3⟩ := p.setArr hk hi hG (n' := n + m) (by omega) hlen (B := w.heap.size) (N := G * i.size) (C := G) hge rfl (w' := w.drew.alloc (.cells CC el)) (by
   refine ⟨?_, hGG, fun j hj => World.frozen?_alloc_at (w := w.drew) CC el _ j rfl, fun j hj => ?_⟩
   ·show (w.drew.alloc (.cells CC el)).shape? w.drew.heap.size = _
    unfold World.shape?; rw [alloc_at]; simp only [hsz]
   ·have hj' : j < (n + m) * i.size := hj
    have hcell : (w.drew.alloc (.cells CC el)).cell? ⟨w.heap.size, j, none⟩ = (L ++ news)[j]? := by
     rw [show (w.drew.alloc (.cells CC el)).cell? ⟨w.heap.size, j, none⟩ = CC[j]? from World.cell?_alloc_at (w := w.drew) CC el _ j rfl]; exact hall j (by omega)
    rw [hcell, Row.get_new, Nat.mod_eq_of_lt (by omega)]
    have h1 := List.getElem?_eq_getElem (l := l ++ cs) (i := j) (by omega)
    obtain ⟨x, x1, x2⟩ := hboth.at h1
    rw [h1]
    exact ⟨x, x1, x2⟩) ⟨rfl, rfl, rfl, by simp⟩ (.inr ⟨rfl, by simp, fun D hD => alloc_block w.drew _ hD⟩)
  exact ⟨_, _, ρ', hrun, q1, q2, q3⟩
 simp only [VR] at hS
 obtain ⟨hv, ⟨rfl, a0, rfl⟩ | ⟨B, C, rfl, hC⟩⟩ := hS
 ·have : l = [] := List.length_eq_zero_iff.1 (by omega)
  subst this
  exact fresh a0 0 [] (by simp [VRs]) (by cases a0 <;> simp [Builtin.firstCells, loadCells, loadCellsFrom]) (by omega)
 ·by_cases hroom : n + m ≤ C
  ·obtain ⟨N, h1, h2, h3, h4, h5, ro, L, l1, l3⟩ := p.hr.arrAt hk hv (.inr (by omega))
   have l2 : L.length = n * i.size := by rw [← l1.length]; exact h5
   have hNle : (n + m) * i.size ≤ N := by rw [← h4]; exact Nat.mul_le_mul_right _ hroom
   have c1 : ∀ j, j < news.length → (w.cell? ⟨B, n * i.size + j, none⟩).isSome = true := fun j hj => cell_some ro.1 (by omega)
   have c2 : ∀ j, j < news.length → w.frozen? ⟨B, n * i.size + j, none⟩ = false := fun j hj => ro.2.2.1 _ (by omega)
   have hst := run_storeCells_cells (P := P) B (n * i.size) news 0 w (by simpa using c1) (by simpa using c2) ho
   have hrun := s.room (ty := ty) ht0 ht hinfo (some ⟨B, 0, none⟩) n C rest hm0 hroom (w' := w.setCells B (n * i.size) news) (by
    show (storeCells ((⟨B, 0, none⟩ : Addr).add (n * i.size)) news).run P w = _
    rw [add_off, Nat.zero_add]; simpa using hst)
   obtain ⟨ρ', q1, q2, q3⟩ := p.setArr hk hi hG (n' := n + m) (by omega) hlen (B := B) (N := N) (C := C) hroom h4 (w' := w.setCells B (n * i.size) news) (by
    refine ⟨by rw [shape_setCells]; exact ro.1, hNle, fun j hj => by rw [World.frozen?_setCells]; exact ro.2.2.1 j hj, fun j hj => ?_⟩
    have hj' : j < (n + m) * i.size := hj
    rw [Row.get_new, Nat.mod_eq_of_lt (by omega)]
    by_cases hjr : j < n * i.size
    ·obtain ⟨x, x1, x2⟩ := ro.2.2.2 j hjr
     rw [Row.get_new, Nat.mod_eq_of_lt (by omega)] at x2
     refine ⟨x, ?_, by rw [List.getElem?_append_left (by omega)]; exact x2⟩
     rw [World.cell?_setCells_out B news (n * i.size) w ⟨B, j, none⟩ (fun _ _ => .inl hjr)]; exact x1
    ·have hkk : j - n * i.size < cs.length := by omega
     obtain ⟨x, x1, x2⟩ := hcs.at (List.getElem?_eq_getElem hkk)
     have := World.cell?_setCells_in B news (n * i.size) w c1 (j - n * i.size) (by omega)
     rw [show n * i.size + (j - n * i.size) = j by omega] at this
     refine ⟨_, this, ?_⟩
     have x3 : news[j - n * i.size] = x := by
      have := List.getElem?_eq_getElem (l := news) (i := j - n * i.size) (by omega)
      rw [x1] at this; exact (Option.some.inj this).symm
     rw [x3, List.getElem?_append_right (by omega), h5, List.getElem?_eq_getElem hkk]
     exact x2) (same_setCells _ _ _ _) (.inl ⟨⟨N, h1⟩, size_setCells _ _ _ _, fun D hD => heap_setCells_ne B D hD news (n * i.size) w⟩)
   exact ⟨_, _, ρ', hrun, q1, q2, q3⟩
  ·obtain ⟨L, l1, l3⟩ := p.hr.arrCells hk hv
   have l2 : L.length = n * i.size := by rw [← l1.length]; exact hll
   have hof := run_firstCells_some (P := P) w.drew i.size n ⟨B, 0, none⟩ n C L l2 (fun j u hj => by rw [add_off, Nat.zero_add]; exact l3 j u hj)
   exact fresh (some ⟨B, 0, none⟩) C L l1 hof (by omega)
end Go.Px
end
section
namespace Go.Px
def Chg (X : Cx) (sz : Nat) (rd : Option Nat) (L : List (Nat × AV)) (h : Heap) (L' : List (Nat × AV)) (h' : Heap) (m : List Nat) : Prop :=
 ∀ (ro : Option Nat) (ρ : Map) (w : World) (e : T AV) (a : Act), RoX X ρ rd ro → PI X ρ h w → ER ρ e a.tmps sz → Has e L → MRX X ρ m a.defers → ∃ ρ' e', RoX X ρ' rd ro ∧ PI X ρ' h' w ∧ ER ρ' e' a.tmps sz ∧ Has e' L' ∧ MRX X ρ' m a.defers
section
variable {X : Cx} {sz : Nat} {rd : Option Nat} {all : Array Oper} {rest : List Oper} {k : List It} {L L' : List (Nat × AV)} {h h' : Heap} {m : List Nat} {Q : Post}
theorem Ops.change (H : Chg X sz rd L h L' h' m) (n : Ops X sz rd all rest k L' h' m Q) : Ops X sz rd all rest k L h m Q := ⟨fun e he is his ro ρ w a Q' h1 h2 h3 h4 h5 => by
 obtain ⟨ρ', e', g1, g2, g3, g4, g5⟩ := H ro ρ w e a h1 h2 h3 he h4
 exact n.run e' g4 is his ro ρ' w a Q' g1 g2 g3 g5 h5⟩
theorem Go.change {c : Code} (H : Chg X sz rd L h L' h' m) (n : Go X sz rd (.code c :: k) L' h' m Q) : Go X sz rd (.code c :: k) L h m Q := ⟨fun e he ro ρ w a Q' h1 h2 h3 h4 h5 => by
 obtain ⟨ρ', e', g1, g2, g3, g4, g5⟩ := H ro ρ w e a h1 h2 h3 he h4
 have hn : Tri X sz rd c ⟨e', h', m⟩ (RunK X sz rd k Q) := n.run e' g4
 exact hn ro ρ' w a Q' g1 g2 g3 g5 h5⟩
theorem Go.changeL {c : Code} (H : Chg X sz rd L h L' h' m) (n : Go X sz rd (.lp c :: k) L' h' m Q) : Go X sz rd (.lp c :: k) L h m Q := ⟨fun e he ro ρ w a Q' h1 h2 h3 h4 h5 => by
 obtain ⟨ρ', e', g1, g2, g3, g4, g5⟩ := H ro ρ w e a h1 h2 h3 he h4
 have hn : LoopIn X sz rd c ⟨e', h', m⟩ (RunK X sz rd k Q) := n.run e' g4
 exact hn ro ρ' w a Q' g1 g2 g3 g5 h5⟩
end
/-! ## a new array of one's own, out of nil -/
theorem PI.tokV {X : Cx} {ρ : Map} {h : Heap} {w : World} (p : PI X ρ h w) (ty z : Nat) {v0 : Value} {a0 : Option Addr} (hv0 : v0 = .slice a0 0 0) (hz : X.g = none ∨ Nat.ble 1 h.nxt = true) : ∃ ρ', PI X ρ' (h.new (.arr ty z 0 [])) w ∧ Sub ρ ρ' ∧ ρ'.V h.nxt 0 = some v0 ∧ ρ'.m = ρ.m ∧ ρ'.F = ρ.F := by
 let ρ' : Map := ⟨ρ.m, ρ.F, fun j q => if j = h.nxt ∧ q = 0 then some v0 else ρ.V j q⟩
 have v1 : ρ'.V h.nxt 0 = some v0 := if_pos ⟨rfl, rfl⟩
 have v2 : ∀ j q, ¬ (j = h.nxt ∧ q = 0) → ρ'.V j q = ρ.V j q := fun j q a => if_neg a
 have hs : Sub ρ ρ' := ⟨fun _ _ e => e, fun _ _ _ e => e, fun j q v e => by
  by_cases hh : j = h.nxt ∧ q = 0
  ·rw [hh.1, p.vf h.nxt (Nat.le_refl _)] at e; cases e
  ·rw [v2 j q hh]; exact e⟩
 have hg : ∀ j, j ≠ h.nxt → (h.new (.arr ty z 0 [])).get j = h.get j := fun j q => by rw [Heap.get_new, if_neg q]
 have hn : (h.new (.arr ty z 0 [])).get h.nxt = .arr ty z 0 [] := by rw [Heap.get_new, if_pos rfl]
 have ho : ∀ j, j ≠ h.nxt → ((h.new (.arr ty z 0 [])).ok j ↔ h.ok j) := fun j q => Heap.ok_same (hg j q) (fun _ _ _ _ => rfl)
 have hne : ∀ i B N, ρ i = some (B, N) → i ≠ h.nxt := fun i B N e q => by rw [q, p.fr.1 h.nxt (Nat.le_refl _)] at e; cases e
 refine ⟨ρ', ⟨⟨p.hr.lt, fun i B N e q => ?_, fun i j B N M hij e1 e2 k1 k2 => ?_, fun i r q => ?_, p.hr.fz, fun i B N e q => ?_, fun i t' z' n l q => ?_⟩, ⟨fun i hi => ?_, fun i r q e1 e2 => ?_, fun i r q t e1 e2 e3 => ?_, fun q hq => p.wf.tipr q (Nat.le_of_succ_le hq)⟩, ⟨fun i hi => p.fr.1 i (Nat.le_of_succ_le hi), fun i r q => ?_⟩, fun i hi n => ?_, fun i t' z' n l q m' hm => ?_, p.ext, p.mine, p.sub, p.old, p.keep.mono hs, hz.elim (fun q G e => by rw [q] at e; cases e) fun q => p.gh.go (fun t z n l e => by rw [hg 0 (by have := bleT q; omega)] at e; exact ⟨_, _, _, e⟩) (Same.refl w) (fun _ _ _ => rfl) (fun i B N e o => .inr ⟨i, N, e, (ho i (hne i B N e)).1 o⟩) (fun _ _ _ => rfl) (fun B N e => .inl ⟨N, e⟩) (fun _ _ => rfl) (fun _ _ _ e => e) (fun v e => hs.V _ _ _ e)⟩, hs, v1, rfl, rfl⟩
 ·have hi := hne i B N e
  rw [hg i hi]; exact (p.hr.ok i B N e ((ho i hi).1 q)).mono hs
 ·have hi := hne i B N e1
  have hj := hne j B M e2
  obtain ⟨r, s, q, a, b, c⟩ := p.hr.inj i j B N M hij e1 e2 ((ho i hi).1 k1) ((ho j hj).1 k2)
  exact ⟨r, s, q, by rw [hg i hi]; exact a, by rw [hg j hj]; exact b, c⟩
 ·by_cases hi : i = h.nxt
  ·subst hi; rw [hn] at q; cases q
  ·rw [hg i hi] at q; exact p.hr.gl i r q
 ·have hi := hne i B N e
  rw [hg i hi]; exact p.hr.sep i B N e ((ho i hi).1 q)
 ·by_cases hi : i = h.nxt
  ·subst hi; rw [hn] at q; cases q
   exact ⟨by simp, .inl ⟨rfl, a0, v1.trans (by rw [hv0])⟩⟩
  ·rw [hg i hi] at q; exact (p.hr.av i t' z' n l q).mono hs
 ·have hi' : h.nxt + 1 ≤ i := hi
  rw [hg i (by omega)]; exact p.wf.fresh i (by omega)
 ·by_cases hi : i = h.nxt
  ·subst hi; rw [hn] at e1; cases e1
  ·rw [hg i hi] at e1; exact Nat.lt_succ_of_lt (p.wf.root i r q e1 e2)
 ·by_cases hi : i = h.nxt
  ·subst hi; rw [hn] at e1; cases e1
  ·rw [hg i hi] at e1
   obtain ⟨s, a, c⟩ := p.wf.tip i r q t e1 e2 e3
   exact ⟨s, by rw [hg t (fun k => by subst k; rw [p.wf.fresh _ (Nat.le_refl _)] at a; cases a)]; exact a, c⟩
 ·have := p.fr.2 i r q
  rw [hg i (fun k => by subst k; rw [p.wf.fresh _ (Nat.le_refl _)] at this; cases this)]; exact this
 ·have hi' : h.nxt + 1 ≤ i := hi
  rw [v2 i n (fun a => by omega)]; exact p.vf i (by omega) n
 ·by_cases hi : i = h.nxt
  ·subst hi; rw [hn] at q; cases q
   rw [v2 _ m' (fun a => by omega)]; exact p.vf _ (Nat.le_refl _) m'
  ·rw [hg i hi] at q
   rw [v2 i m' (fun a => hi a.1)]; exact p.vu i t' z' n l q m' hm
def noRoom : AV → Bool
 | .nilsl => true
 | .csl => true
 | _ => false
theorem noRoom_at {ρ : Map} {u : AV} (hu : noRoom u = true) {v : Value} (h : VR ρ u v) : ∃ a, v = .slice a 0 0 := by
 cases u <;> simp only [noRoom] at hu <;> first | (cases hu; done) | skip
 ·simp only [VR] at h; exact ⟨_, h⟩
 ·simp only [VR] at h
  rcases h with rfl | ⟨a, rfl⟩ <;> exact ⟨_, rfl⟩
theorem Chg.tokU {X : Cx} {sz : Nat} {rd : Option Nat} {L : List (Nat × AV)} {h : Heap} {m : List Nat} (t : Nat) (ty z : Nat) {u : AV} (hu : noRoom u = true) (hl : lkO L t = some u) (hz : X.g = none ∨ Nat.ble 1 h.nxt = true := by first | exact .inl rfl | exact .inr rfl) : Chg X sz rd L h ((t, .own h.nxt 0 z) :: L) (h.new (.arr ty z 0 [])) m := fun ro ρ w e a h1 p h3 he h4 => by
 have hx := h3.2 t
 rw [he t _ hl] at hx
 obtain ⟨a0, ha⟩ := noRoom_at hu hx
 obtain ⟨ρ', p', hs, v1, _, _⟩ := p.tokV ty z ha hz
 refine ⟨ρ', e.set und t (.own h.nxt 0 z), h1.mono hs, p', ⟨h3.1, fun s => ?_⟩, he.set t _, h4.mono hs⟩
 rw [get_set]
 by_cases hst : s = t
 ·subst hst
  rw [if_pos rfl]
  simp only [VR]
  exact ⟨v1, .inl ⟨trivial, _, ha⟩⟩
 ·rw [if_neg hst]; exact (h3.2 s).mono hs
theorem Chg.tok {X : Cx} {sz : Nat} {rd : Option Nat} {L : List (Nat × AV)} {h : Heap} {m : List Nat} (t : Nat) (ty z : Nat) (hl : lkO L t = some .nilsl) (hz : X.g = none ∨ Nat.ble 1 h.nxt = true := by first | exact .inl rfl | exact .inr rfl) : Chg X sz rd L h ((t, .own h.nxt 0 z) :: L) (h.new (.arr ty z 0 [])) m := Chg.tokU t ty z rfl hl hz
/-! ## nobody writes it any more -/
theorem PI.frzArr {X : Cx} {ρ : Map} {h : Heap} {w : World} (p : PI X ρ h w) {id ty z n : Nat} {l : List AV} (hg0 : h.get id = .arr ty z n l) (hi : HInd id h) (hG : indsB id X.gv = true) : ∃ ρ', PI X ρ' (h.put id .none) w ∧ SubX id ρ ρ' ∧ (∀ i, i ≠ id → ρ' i = ρ i) ∧ (∀ S, VR ρ (.own id n z) S → VR ρ' (.rsl n z l) S) ∧ ρ'.V = ρ.V := by
 obtain ⟨hlen, hcase⟩ := p.hr.av id ty z n l hg0
 have key : ∃ (F : Nat → List Value), (∀ (b j : Nat) (x : Value), (ρ.F b)[j]? = some x → (F b)[j]? = some x) ∧ (∀ b, (∀ M, ρ id ≠ some (b, M)) → F b = ρ.F b) ∧ FzW F w ∧ ∀ S, VR ρ (.own id n z) S → VR ⟨fun _ => none, F, fun _ _ => none⟩ (.rsl n z l) S := by
  rcases hcase with ⟨rfl, o0, hv⟩ | ⟨B, N, C, e1, e2, e3, e4⟩
  ·refine ⟨ρ.F, fun _ _ _ e => e, fun _ _ => rfl, p.hr.fz, fun S hS => ?_⟩
   have : l = [] := List.length_eq_zero_iff.1 (by omega)
   subst this
   simp only [VR] at hS
   rw [hv] at hS
   obtain ⟨q, _⟩ := hS
   cases q
   simp only [VR]
   refine ⟨by simp, .inl ⟨trivial, ?_⟩⟩
   cases o0 with
   | none => exact .inl rfl
   | some a => exact .inr ⟨a, 0, rfl⟩
  by_cases hn0 : n = 0
  ·subst hn0
   refine ⟨ρ.F, fun _ _ _ e => e, fun _ _ => rfl, p.hr.fz, fun S hS => ?_⟩
   have : l = [] := List.length_eq_zero_iff.1 (by omega)
   subst this
   simp only [VR] at hS
   rw [e2] at hS
   obtain ⟨q, _⟩ := hS
   cases q
   simp only [VR]
   exact ⟨by simp, .inl ⟨trivial, .inr ⟨_, _, rfl⟩⟩⟩
  ·obtain ⟨N', h5, h6, h7, h8, h9, ro', L0, l1, l3⟩ := p.hr.arrAt hg0 e2 (.inl hn0)
   have hFB : ρ.F B = [] := p.hr.F_row e1 (by unfold Heap.ok; rw [hg0]; trivial) (fun r => by rw [hg0]; exact fun q => by cases q)
   have g1 : ∀ b, b ≠ B → (fun b => if b = B then L0 else ρ.F b) b = ρ.F b := fun b q => if_neg q
   have g2 : (fun b => if b = B then L0 else ρ.F b) B = L0 := if_pos rfl
   refine ⟨fun b => if b = B then L0 else ρ.F b, fun b j x q => ?_, fun b q => g1 b (fun e => q N (e ▸ e1)), fun b j x q => ?_, fun S hS => ?_⟩
   ·by_cases hb : b = B
    ·subst hb; rw [hFB] at q; simp at q
    ·rw [g1 b hb]; exact q
   ·by_cases hb : b = B
    ·subst hb; rw [g2] at q; exact l3 j x q
    ·rw [g1 b hb] at q; exact p.hr.fz b j x q
   ·simp only [VR] at hS
    rw [e2] at hS
    obtain ⟨q, _⟩ := hS
    cases q
    simp only [VR]
    refine ⟨hlen, .inr ⟨B, 0, C, L0, rfl, e3, ?_, fun j x q => ?_⟩⟩
    ·refine VRs.mono (ρ := ρ.d) ⟨(fun _ _ e => by cases e), fun b j x q => ?_, (fun _ _ _ e => by cases e)⟩ l l1
     show ((fun b => if b = B then L0 else ρ.F b) b)[j]? = some x
     by_cases hb : b = B
     ·subst hb
      have q' : (ρ.F b)[j]? = some x := q
      rw [hFB] at q'; simp at q'
     ·rw [g1 b hb]; exact q
    ·show ((fun b => if b = B then L0 else ρ.F b) B)[0 + j]? = some x
     rw [g2, Nat.zero_add]; exact q
 obtain ⟨F, f1, f2, f3, f4⟩ := key
 let ρ' : Map := ⟨fun i => if i = id then none else ρ i, F, ρ.V⟩
 have m1 : ρ' id = none := if_pos rfl
 have m2 : ∀ i, i ≠ id → ρ' i = ρ i := fun i q => if_neg q
 have sx : SubX id ρ ρ' := ⟨fun i p' q e => by rw [m2 i q]; exact e, f1, fun _ _ _ e => e⟩
 have hg : ∀ j, j ≠ id → (h.put id .none).get j = h.get j := fun j q => by rw [Heap.get_put, if_neg q]
 have hn : (h.put id .none).get id = .none := by rw [Heap.get_put, if_pos rfl]
 have ho : ∀ j, j ≠ id → ((h.put id .none).ok j ↔ h.ok j) := fun j q => Heap.ok_same (hg j q) (fun _ _ _ _ => rfl)
 have hne : ∀ i B N, ρ' i = some (B, N) → i ≠ id ∧ ρ i = some (B, N) := fun i B N e => by
  by_cases q : i = id
  ·subst q; rw [m1] at e; cases e
  ·rw [m2 i q] at e; exact ⟨q, e⟩
 have hpi : PI X ρ' (h.put id .none) w := by
  refine ⟨⟨fun i B N e => p.hr.lt i B N (hne i B N e).2, fun i B N e q => ?_, fun i j B N M hij e1 e2 k1 k2 => ?_, fun i r q => ?_, f3, fun i B N e q => ?_, fun i t' z' n' l' q => ?_⟩, p.wf.putArr hg0 rfl (.inl rfl) rfl, ⟨fun i hi => ?_, fun i r q => ?_⟩, p.vf, fun i t' z' n' l' q m' hm' => ?_, p.ext, fun i B N e => p.mine i B N (hne i B N e).2, fun b j x e => f1 b j x (p.sub b j x e), fun b hb => ?_, inds_ok sx _ hG p.keep, p.gh.go (fun t' z' n' l' q => ?_) (Same.refl w) (fun _ _ _ => rfl) (fun i B N e q => ?_) (fun b hb hno => f2 b fun M ee => hno id M ee (by unfold Heap.ok; rw [hg0]; trivial)) (fun B N e => ?_) (fun _ _ => rfl) f1 (fun _ e => e)⟩
  ·obtain ⟨hi', e'⟩ := hne i B N e
   rw [hg i hi']; exact (p.hr.ok i B N e' ((ho i hi').1 q)).ind sx (hi.at_ p.wf hi')
  ·obtain ⟨hi', e1'⟩ := hne i B N e1
   obtain ⟨hj', e2'⟩ := hne j B M e2
   obtain ⟨r, s, q, a, b, c⟩ := p.hr.inj i j B N M hij e1' e2' ((ho i hi').1 k1) ((ho j hj').1 k2)
   exact ⟨r, s, q, by rw [hg i hi']; exact a, by rw [hg j hj']; exact b, c⟩
  ·by_cases hi' : i = id
   ·subst hi'; rw [hn] at q; cases q
   ·rw [hg i hi'] at q
    obtain ⟨N, hN⟩ := p.hr.gl i r q
    exact ⟨N, by rw [m2 i hi']; exact hN⟩
  ·obtain ⟨hi', e'⟩ := hne i B N e
   rw [hg i hi']
   have q' := (ho i hi').1 q
   show F B = [] ∨ _
   rw [f2 B (fun M ee => ?_)]
   ·exact p.hr.sep i B N e' q'
   ·obtain ⟨r, s, q'', x, _⟩ := p.hr.inj id i B M N (Ne.symm hi') ee e' (by unfold Heap.ok; rw [hg0]; trivial) q'
    rw [hg0] at x; cases x
  ·by_cases hi' : i = id
   ·subst hi'; rw [hn] at q; cases q
   ·rw [hg i hi'] at q
    obtain ⟨a1, ⟨a, b⟩ | ⟨B2, N2, C2, e1, e2⟩⟩ := p.hr.av i t' z' n' l' q
    ·exact ⟨a1, .inl ⟨a, b⟩⟩
    ·exact ⟨a1, .inr ⟨B2, N2, C2, by rw [m2 i hi']; exact e1, e2⟩⟩
  ·by_cases hi' : i = id
   ·subst hi'; exact m1
   ·rw [m2 i hi']; exact p.fr.1 i hi
  ·have := p.fr.2 i r q
   rw [hg i (fun k => by subst k; rw [hg0] at this; cases this)]; exact this
  ·by_cases hi' : i = id
   ·subst hi'; rw [hn] at q; cases q
   ·rw [hg i hi'] at q; exact p.vu i t' z' n' l' q m' hm'
  ·show F b = _
   rw [f2 b (fun M ee => p.mine id b M ee hb)]; exact p.old b hb
  ·by_cases hi' : 0 = id
   ·subst hi'; rw [hn] at q; cases q
   ·rw [hg 0 hi'] at q; exact ⟨_, _, _, q⟩
  ·obtain ⟨hi', e'⟩ := hne i B N e
   exact .inr ⟨i, N, e', (ho i hi').1 q⟩
  ·by_cases hi' : 1 = id
   ·subst hi'; exact .inr (by unfold Heap.ok; rw [hg0]; trivial)
   ·exact .inl ⟨N, by rw [m2 1 hi']; exact e⟩
 exact ⟨ρ', hpi, sx, m2, fun S hS => VR.mono (ρ := ⟨fun _ => none, F, fun _ _ => none⟩) ⟨(fun _ _ e => by cases e), fun _ _ _ e => e, (fun _ _ _ e => by cases e)⟩ _ (f4 S hS), rfl⟩
theorem Chg.frz {X : Cx} {sz : Nat} {rd : Option Nat} {L : List (Nat × AV)} {h : Heap} {m : List Nat} (t : Nat) {id ty z n : Nat} {l : List AV} (hl : lkO L t = some (.own id n z)) (hg0 : h.get id = .arr ty z n l) (hi : HInd id h) (hL : indL id L = true)
  (hm : (m.all fun i => !Nat.beq i id) = true) (hrd : rd ≠ some id) (hG : indsB id X.gv = true := by rfl) : Chg X sz rd L h ((t, .rsl n z l) :: L) (h.put id .none) m := fun ro ρ w e a h1 p h3 he h4 => by
 obtain ⟨ρ', hpi, sx, m2, f4, _⟩ := p.frzArr hg0 hi hG
 obtain ⟨e', he', er'⟩ := known_env (σ := ρ') (L := (t, .rsl n z l) :: L) (tm := a.tmps) (sz := sz) h3.1 (fun s v q => by
  unfold lkO at q
  split at q
  ·rename_i hs
   have hs := beqT hs
   cases q
   subst hs
   have := h3.2 s
   rw [he s _ hl] at this
   exact f4 _ this
  ·have := h3.2 s
   rw [he s _ q] at this
   exact ind_ok sx v (indL_at hL s v q) this)
 refine ⟨ρ', e', ?_, hpi, er', he', ?_⟩
 ·cases rd with
  | none => exact h1
  | some r =>
   obtain ⟨B, N, q1, q2⟩ := h1
   exact ⟨B, N, by rw [m2 r (fun e => hrd (by rw [e]))]; exact q1, q2⟩
 ·have hmr : ∀ {m : List Nat} {D : List Deferred}, (m.all fun i => !Nat.beq i id) = true → MR ρ m D → MR ρ' m D := by
   intro m
   induction m with
   | nil => intro D _ q; exact q
   | cons d m ih =>
    intro D hh q
    simp only [List.all_cons, Bool.and_eq_true] at hh
    obtain ⟨B, N, r, q1, q2, q3⟩ := q
    exact ⟨B, N, r, by rw [m2 d (nb hh.1)]; exact q1, ih hh.2 q2, q3⟩
  obtain ⟨D1, h5, h6⟩ := h4
  exact ⟨D1, hmr hm h5, h6⟩
end Go.Px
end
section
namespace Go.Px
/-! ## what is no more needed -/
mutual
def lowB (n : Nat) : AV → Bool
 | .ptr i _ => Nat.ble (i + 1) n
 | .sl i _ _ _ _ => Nat.ble (i + 1) n
 | .esl i => Nat.ble (i + 1) n
 | .mp i => Nat.ble (i + 1) n
 | .own i _ _ => Nat.ble (i + 1) n
 | .optr i _ _ => Nat.ble (i + 1) n
 | .fn f a b => (match (match f with | .yield l => Nat.ble (l + 1) n | _ => true) with | true => (match lowsB n a with | true => lowsB n b | false => false) | false => false)
 | .ifc _ a => lowB n a
 | .agg l => lowsB n l
 | .tup l => lowsB n l
 | _ => true
def lowsB (n : Nat) : List AV → Bool
 | [] => true
 | a :: l => (match lowB n a with | true => lowsB n l | false => false)
end
def cutN (ρ : Map) (n : Nat) : Map := ⟨fun i => if i < n then ρ i else none, ρ.F, fun k q => if k < n then ρ.V k q else none⟩
theorem cutN_m {ρ : Map} {n i : Nat} (h : i < n) : cutN ρ n i = ρ i := if_pos h
theorem cutN_n {ρ : Map} {n i : Nat} (h : ¬ i < n) : cutN ρ n i = none := if_neg h
theorem cutN_V {ρ : Map} {n i : Nat} (h : i < n) (q : Nat) : (cutN ρ n).V i q = ρ.V i q := if_pos h
theorem cutN_d (ρ : Map) (n : Nat) : (cutN ρ n).d = ρ.d := rfl
mutual
theorem low_ok {n : Nat} {ρ : Map} : ∀ (a : AV) {v : Value}, lowB n a = true → VR ρ a v → VR (cutN ρ n) a v
 | .bad, _, _, _ => by simp [VR]
 | .bool b, _, _, q => by simpa [VR] using q
 | .int _ _, _, _, q => by simpa [VR] using q
 | .str l, _, _, q => by simpa [VR] using q
 | .nilptr, _, _, q => by simpa [VR] using q
 | .ptr i o, v, h, q => by
  simp only [lowB] at h
  simp only [VR] at q ⊢
  obtain ⟨B, N, e, r⟩ := q; exact ⟨B, N, by rw [cutN_m (bleT h)]; exact e, r⟩
 | .nilsl, _, _, q => by simpa [VR] using q
 | .sl i o l c z, v, h, q => by
  simp only [lowB] at h
  simp only [VR] at q ⊢
  obtain ⟨B, N, C, e, r⟩ := q; exact ⟨B, N, C, by rw [cutN_m (bleT h)]; exact e, r⟩
 | .esl i, v, h, q => by
  simp only [lowB] at h
  simp only [VR] at q ⊢
  obtain ⟨B, N, o, C, e, r⟩ := q; exact ⟨B, N, o, C, by rw [cutN_m (bleT h)]; exact e, r⟩
 | .nilmp, _, _, q => by simpa [VR] using q
 | .mp i, v, h, q => by
  simp only [lowB] at h
  simp only [VR] at q ⊢
  obtain ⟨B, N, e, r⟩ := q; exact ⟨B, N, by rw [cutN_m (bleT h)]; exact e, r⟩
 | .nilfn, _, _, q => by simpa [VR] using q
 | .fn f a b, v, h, q => by
  have h' := h
  simp only [lowB] at h'
  split at h'
  ·rename_i hf
   split at h'
   ·rename_i ha
    simp only [VR] at q ⊢
    obtain ⟨f', F, C, e1, e2, e3, e4⟩ := q
    refine ⟨f', F, C, ?_, lows_ok a ha e2, lows_ok b h' e3, e4⟩
    cases f <;> simp only [FR] at e1 ⊢
    all_goals first | exact e1 | (obtain ⟨B, N, e, r⟩ := e1; exact ⟨B, N, by rw [cutN_m (bleT hf)]; exact e, r⟩)
   ·cases h'
  ·cases h'
 | .nilifc, _, _, q => by simpa [VR] using q
 | .ifc t a, v, h, q => by
  simp only [lowB] at h
  simp only [VR] at q ⊢
  obtain ⟨x, e, r⟩ := q; exact ⟨x, low_ok a h e, r⟩
 | .agg l, v, h, q => by
  simp only [lowB] at h
  simp only [VR] at q ⊢
  obtain ⟨x, e, r⟩ := q; exact ⟨x, lows_ok l h e, r⟩
 | .tup l, v, h, q => by
  simp only [lowB] at h
  simp only [VR] at q ⊢
  obtain ⟨x, e, r⟩ := q; exact ⟨x, lows_ok l h e, r⟩
 | .gptr g o, _, _, q => by simpa [VR] using q
 | .anyb, _, _, q => by simpa [VR] using q
 | .big n, _, _, q => by simpa [VR] using q
 | .low n, _, _, q => by simpa [VR] using q
 | .anyi, _, _, q => by simpa [VR] using q
 | .rsl n z l, v, h, q => by simp only [VR] at q ⊢; exact q
 | .rptr l, v, h, q => by simp only [VR] at q ⊢; exact q
 | .csl, _, _, q => by simpa [VR] using q
 | .own i m z, v, h, q => by
  simp only [lowB] at h
  simp only [VR] at q ⊢; exact ⟨by rw [cutN_V (bleT h)]; exact q.1, q.2⟩
 | .optr i m o, v, h, q => by
  simp only [lowB] at h
  simp only [VR] at q ⊢
  obtain ⟨B, C, e1, e2⟩ := q
  exact ⟨B, C, by rw [cutN_V (bleT h)]; exact e1, e2⟩
theorem lows_ok {n : Nat} {ρ : Map} : ∀ (l : List AV) {L : List Value}, lowsB n l = true → VRs ρ l L → VRs (cutN ρ n) l L
 | [], _, _, q => by simpa [VRs] using q
 | a :: l, L, h, q => by
  have h' := h
  simp only [lowsB] at h'
  split at h'
  ·rename_i ha
   simp only [VRs] at q ⊢
   obtain ⟨x, r, e1, e2, e3⟩ := q
   exact ⟨x, r, low_ok a ha e1, lows_ok l h' e2, e3⟩
  ·cases h'
end
def lowL (n : Nat) : List (Nat × AV) → Bool
 | [] => true
 | (_, v) :: r => (match lowB n v with | true => lowL n r | false => false)
theorem lowL_at {n : Nat} : ∀ {L : List (Nat × AV)}, lowL n L = true → ∀ t v, lkO L t = some v → lowB n v = true
 | [], _, t, v, q => by cases q
 | (s, u) :: r, h, t, v, q => by
  simp only [lowL] at h
  split at h
  ·rename_i hu
   unfold lkO at q
   split at q
   ·cases q; exact hu
   ·exact lowL_at h t v q
  ·cases h
def ABLow (n : Nat) (b : AB) : Prop :=
 match b with
 | .none => True
 | .row r => r.root = none ∧ ((List.range r.n).all fun j => lowB n (r.get j)) = true
 | .loop l => ∃ lst, l.e = T.put und lst .leaf 0 ∧ lowsB n lst = true ∧ l.defers < n
 | .dfr _ => True
 | .arr _ _ _ _ => True
 | .map es _ => datEs es = true
 | _ => False
theorem put_low {n : Nat} {lst : List AV} (h : lowsB n lst = true) (t : Nat) : lowB n ((T.put und lst (.leaf : T AV) 0).get und t) = true := by
 rw [get_put]
 simp only [Nat.zero_le, if_true, Nat.sub_zero, get_leaf]
 have key : ∀ (l : List AV), lowsB n l = true → ∀ (i : Nat) (a : AV), l[i]? = some a → lowB n a = true := by
  intro l
  induction l with
  | nil => intro _ i a q; simp at q
  | cons x l ih =>
   intro h i a q
   simp only [lowsB] at h
   split at h
   ·rename_i hx
    cases i with
    | zero => simp at q; subst q; exact hx
    | succ i => exact ih h i a (by simpa using q)
   ·cases h
 cases hq : lst[t]? with
 | none => rfl
 | some a => exact key lst h t a hq
theorem ABR.low {n : Nat} {ρ : Map} {b : AB} (hb : ABLow n b) {B N : Nat} {w : World} (h : ABR ρ b B N w) : ABR (cutN ρ n) b B N w := by
 cases b with
 | none => trivial
 | row r =>
  refine ⟨h.1, h.2.1, h.2.2.1, fun j hj => ?_⟩
  obtain ⟨v, a, q⟩ := h.2.2.2 j hj
  exact ⟨v, a, low_ok _ (List.all_eq_true.1 hb.2 j (List.mem_range.2 hj)) q⟩
 | loop l =>
  obtain ⟨lst, e1, e2, e3⟩ := hb
  obtain ⟨fn, tm, D, M, a, q, r⟩ := h
  refine ⟨fn, tm, D, M, a, ⟨q.1, fun t => ?_⟩, by rw [cutN_m e3]; exact r⟩
  have := q.2 t
  rw [e1] at this ⊢
  exact low_ok _ (put_low e2 t) this
 | dfr b => exact h
 | arr t z m l => exact h
 | map es c => obtain ⟨ES, e1, e2⟩ := h; exact ⟨ES, e1, e2.dat (by rw [cutN_d]; exact Sub.refl _) hb⟩
 | sit l p => exact hb.elim
 | mit m a b c => exact hb.elim
 | gl r => exact hb.elim
noncomputable def hp (bs : List AB) : Heap := ⟨bs.length, T.put .none bs .leaf 0, .leaf, []⟩
theorem hp_get (bs : List AB) (i : Nat) : (hp bs).get i = (bs[i]?).getD .none := by
 show (T.put AB.none bs .leaf 0).get .none i = _
 rw [get_put]
 simp
def getsP (h : Heap) : List AB → Nat → Prop
 | [], _ => True
 | b :: r, i => (b = .none ∨ h.get i = b) ∧ getsP h r (i + 1)
def lowsP (n : Nat) : List AB → Prop
 | [] => True
 | b :: r => ABLow n b ∧ lowsP n r
theorem getsP_at {h : Heap} : ∀ {bs : List AB} {i : Nat}, getsP h bs i → ∀ (j : Nat) (b : AB), bs[j]? = some b → b = .none ∨ h.get (i + j) = b
 | [], i, _, j, b, q => by simp at q
 | x :: r, i, g, j, b, q => by
  cases j with
  | zero => simp at q; subst q; exact g.1
  | succ j =>
   have := getsP_at g.2 j b (by simpa using q)
   rwa [show i + 1 + j = i + (j + 1) by omega] at this
theorem lowsP_at {n : Nat} : ∀ {bs : List AB}, lowsP n bs → ∀ (j : Nat) (b : AB), bs[j]? = some b → ABLow n b
 | [], _, j, b, q => by simp at q
 | x :: r, g, j, b, q => by
  cases j with
  | zero => simp at q; subst q; exact g.1
  | succ j => exact lowsP_at g.2 j b (by simpa using q)
def rdLow (n : Nat) (rd : Option Nat) : Bool := match rd with | some r => Nat.ble (r + 1) n | none => true
theorem PI.cutP {X : Cx} {ρ : Map} {h : Heap} {w : World} (p : PI X ρ h w) (bs : List AB) (hg : ∀ i r, X.c.g0.get i ≠ .gl r) (hn : Nat.ble bs.length h.nxt = true) (hb : getsP h bs 0) (hbl : lowsP bs.length bs) (hG : lowsB bs.length X.gv = true) (hz : X.g = none ∨ Nat.ble 2 bs.length = true) : PI X (cutN ρ bs.length) (hp bs) w := by
 have hn := bleT hn
 have gl : ∀ i b, (hp bs).get i = b → b ≠ .none → i < bs.length ∧ h.get i = b ∧ ABLow bs.length b := fun i b q hne => by
  rw [hp_get] at q
  cases hbi : bs[i]? with
  | none => rw [hbi] at q; exact absurd q.symm hne
  | some b' =>
   rw [hbi] at q
   simp at q
   subst q
   have hi := (List.getElem?_eq_some_iff.1 hbi).1
   rcases getsP_at hb i b' hbi with r | r
   ·exact absurd r hne
   ·rw [Nat.zero_add] at r; exact ⟨hi, r, lowsP_at hbl i b' hbi⟩
 have hok : ∀ i, (hp bs).ok i → ∃ b, (hp bs).get i = b ∧ b ≠ .none ∧ i < bs.length ∧ h.get i = b ∧ ABLow bs.length b ∧ h.ok i := fun i o => by
  have hne : (hp bs).get i ≠ .none := fun q => by unfold Heap.ok at o; rw [q] at o; exact o
  obtain ⟨q1, q2, q3⟩ := gl i _ rfl hne
  refine ⟨_, rfl, hne, q1, q2, q3, ?_⟩
  unfold Heap.ok
  rw [q2]
  cases hh : (hp bs).get i with
  | none => exact absurd hh hne
  | row r =>
   rw [hh] at q3
   simp only []
   rw [Heap.row_of (q2.trans hh), q3.1]; rfl
  | _ => trivial
 have hcut : ∀ i p', cutN ρ bs.length i = some p' → i < bs.length ∧ ρ i = some p' := fun i p' q => by
  by_cases hi : i < bs.length
  ·rw [cutN_m hi] at q; exact ⟨hi, q⟩
  ·rw [cutN_n hi] at q; cases q
 refine ⟨⟨fun i B N q => p.hr.lt i B N (hcut i _ q).2, fun i B N q o => ?_, fun i j B N M hij q1 q2 o1 o2 => ?_, fun i r q => ?_, p.hr.fz, fun i B N q o => ?_, fun i t z n l q => ?_⟩, ⟨fun i hi => ?_, fun i r q a b => ?_, fun i r q t a b => ?_, fun q _ => rfl⟩, ⟨fun i hi => cutN_n (show ¬ i < bs.length from Nat.not_lt.2 hi), fun i r q => absurd q (hg i r)⟩, fun i hi n => if_neg (show ¬ i < bs.length from Nat.not_lt.2 hi), fun i t z n l q m' hm' => ?_, p.ext, fun i B N q => p.mine i B N (hcut i _ q).2, p.sub, p.old, lows_ok _ hG p.keep, hz.elim (fun q G e => by rw [q] at e; cases e) fun hz => p.gh.go (fun t z n l q => ⟨_, _, _, (gl 0 _ q (by simp)).2.1⟩) (Same.refl w) (fun _ _ _ => rfl) (fun i B N q o => ?_) (fun _ _ _ => rfl) (fun B N q => .inl ⟨N, by rw [cutN_m (bleT hz)]; exact q⟩) (fun _ _ => rfl) (fun _ _ _ e => e) (fun v q => by rw [cutN_V (Nat.lt_trans Nat.zero_lt_one (bleT hz))]; exact q)⟩
 ·obtain ⟨b, g1, g2, g3, g4, g5, g6⟩ := hok i o
  have := p.hr.ok i B N (hcut i _ q).2 g6
  rw [g4] at this
  rw [g1]; exact this.low g5
 ·obtain ⟨b, g1, g2, g3, g4, g5, g6⟩ := hok i o1
  obtain ⟨b', g1', g2', g3', g4', g5', g6'⟩ := hok j o2
  obtain ⟨r, s, q, x, y, z, _⟩ := p.hr.inj i j B N M hij (hcut i _ q1).2 (hcut j _ q2).2 g6 g6'
  rw [g4] at x
  subst x
  rw [g5.1] at z; cases z
 ·obtain ⟨_, _, q3⟩ := gl i _ q (by simp)
  exact q3.elim
 ·obtain ⟨b, g1, g2, g3, g4, g5, g6⟩ := hok i o
  rcases p.hr.sep i B N (hcut i _ q).2 g6 with r | ⟨r, r'⟩
  ·exact .inl r
  ·rw [g4] at r'; subst r'; exact g5.elim
 ·obtain ⟨q1, q2, _⟩ := gl i _ q (by simp)
  obtain ⟨h0, ⟨x, o, y⟩ | ⟨B, N, C, y, z', u⟩⟩ := p.hr.av i t z n l q2
  ·exact ⟨h0, .inl ⟨x, o, by rw [cutN_V q1]; exact y⟩⟩
  ·exact ⟨h0, .inr ⟨B, N, C, by rw [cutN_m q1]; exact y, by rw [cutN_V q1]; exact z', u⟩⟩
 ·have hi' : bs.length ≤ i := hi
  rw [hp_get, List.getElem?_eq_none hi']; rfl
 ·obtain ⟨_, _, q3⟩ := gl i _ a (by simp)
  rw [q3.1] at b; cases b
 ·obtain ⟨_, _, q3⟩ := gl i _ a (by simp)
  rw [q3.1] at b; cases b
 ·obtain ⟨q1, q2, _⟩ := gl i _ q (by simp)
  rw [cutN_V q1]; exact p.vu i t z n l q2 m' hm'
 ·obtain ⟨b, g1, g2, g3, g4, g5, g6⟩ := hok i o
  exact .inr ⟨i, N, (hcut i _ q).2, g6⟩
theorem Chg.cut {X : Cx} {sz : Nat} {rd : Option Nat} {L L' : List (Nat × AV)} {h : Heap} {m : List Nat} (bs : List AB) (hg : ∀ i r, X.c.g0.get i ≠ .gl r) (hs : SubL L L') (hlow : lowL bs.length L' = true) (hn : Nat.ble bs.length h.nxt = true) (hb : getsP h bs 0) (hbl : lowsP bs.length bs)
  (hm : (m.all fun i => Nat.ble (i + 1) bs.length) = true) (hrd : rdLow bs.length rd = true) (hG : lowsB bs.length X.gv = true := by rfl) (hz : X.g = none ∨ Nat.ble 2 bs.length = true := by first | exact .inl rfl | exact .inr rfl) : Chg X sz rd L h L' (hp bs) m := fun ro ρ w e a h1 p h3 he h4 => by
 have hpi := p.cutP bs hg hn hb hbl hG hz
 obtain ⟨e', he', er'⟩ := known_env (σ := cutN ρ bs.length) (L := L') (tm := a.tmps) (sz := sz) h3.1 (fun s v q => by
  have := h3.2 s
  rw [he s v (hs.lk q)] at this
  exact low_ok v (lowL_at hlow s v q) this)
 refine ⟨_, e', ?_, hpi, er', he', ?_⟩
 ·cases rd with
  | none => exact h1
  | some r =>
   obtain ⟨B, N, q1, q2⟩ := h1
   exact ⟨B, N, by rw [cutN_m (bleT (show Nat.ble (r + 1) bs.length = true from hrd))]; exact q1, q2⟩
 ·have hmr : ∀ {m : List Nat} {D : List Deferred}, (m.all fun i => Nat.ble (i + 1) bs.length) = true → MR ρ m D → MR (cutN ρ bs.length) m D := by
   intro m
   induction m with
   | nil => intro D _ q; exact q
   | cons d m ih =>
    intro D hh q
    simp only [List.all_cons, Bool.and_eq_true] at hh
    obtain ⟨B, N, r, q1, q2, q3⟩ := q
    exact ⟨B, N, r, by rw [cutN_m (bleT hh.1)]; exact q1, ih hh.2 q2, q3⟩
  obtain ⟨D1, h5, h6⟩ := h4
  exact ⟨D1, hmr hm h5, h6⟩
theorem Go.toC {X : Cx} {sz : Nat} {rd : Option Nat} {k : List It} {L L' : List (Nat × AV)} {h : Heap} {m : List Nat} {Q : Post} {c : Code} {bs : List AB} (g : Go X sz rd (.lp c :: k) L' (hp bs) m Q) (hg : ∀ i r, X.c.g0.get i ≠ .gl r) (hs : SubL L L') (hlow : lowL bs.length L' = true) (hn : Nat.ble bs.length h.nxt = true) (hb : getsP h bs 0) (hbl : lowsP bs.length bs)
  (hm : (m.all fun i => Nat.ble (i + 1) bs.length) = true) (hrd : rdLow bs.length rd = true) (hG : lowsB bs.length X.gv = true := by rfl) (hz : X.g = none ∨ Nat.ble 2 bs.length = true := by first | exact .inl rfl | exact .inr rfl) : Go X sz rd (.lp c :: k) L h m Q :=
 Go.changeL (Chg.cut bs hg hs hlow hn hb hbl hm hrd hG hz) g
theorem Go.toH {X : Cx} {sz : Nat} {rd : Option Nat} {k : List It} {L L' : List (Nat × AV)} {h : Heap} {m : List Nat} {Q : Post} {c : Code} {bs : List AB} (g : Go X sz rd (.code c :: k) L' (hp bs) m Q) (hg : ∀ i r, X.c.g0.get i ≠ .gl r) (hs : SubL L L') (hlow : lowL bs.length L' = true) (hn : Nat.ble bs.length h.nxt = true) (hb : getsP h bs 0) (hbl : lowsP bs.length bs)
  (hm : (m.all fun i => Nat.ble (i + 1) bs.length) = true) (hrd : rdLow bs.length rd = true) (hG : lowsB bs.length X.gv = true := by rfl) (hz : X.g = none ∨ Nat.ble 2 bs.length = true := by first | exact .inl rfl | exact .inr rfl) : Go X sz rd (.code c :: k) L h m Q :=
 Go.change (Chg.cut bs hg hs hlow hn hb hbl hm hrd hG hz) g
end Go.Px
end
section
namespace Go.Px
theorem ones_flat {α : Type} {enc : α → List AV} (he : ∀ a, ones (enc a) = true) : ∀ l : List α, ones (l.flatMap enc) = true
 | [] => rfl
 | a :: l => by
  have happ : ∀ x y : List AV, ones x = true → ones y = true → ones (x ++ y) = true := by
   intro x y hx hy
   induction x with
   | nil => exact hy
   | cons v x ih =>
    have hx' : (match v.one with | true => ones x | false => false) = true := hx
    show (match v.one with | true => ones (x ++ y) | false => false) = true
    split at hx'
    ·exact ih hx'
    ·cases hx'
  rw [List.flatMap_cons]
  exact happ _ _ (he a) (ones_flat he l)
def rdNot (id : Nat) (rd : Option Nat) : Bool := match rd with | some r => !Nat.beq r id | none => true
section
variable {X : Cx} {tb : List (Nat × TE)} (E : Env X.c tb) {sz : Nat} {rd : Option Nat} {all : Array Oper} {o : Oper} {rest : List Oper} {k : List It} {L : List (Nat × AV)} {h : Heap} {m : List Nat} {Q : Post}
include E
theorem Ops.append {d : Nat} {cl : Call} {x y : Operand} {t t1 el id n z q : Nat} {l cs : List AV} {e e1 ee : TE} (hd : o.dst = some d) (hs : Nat.ble (d + 1) sz = true) (hw : Want all L o true) (ho : o.op = .call cl) (hc : cl.callee = .builtin .append) (ha : cl.args.toList = [x, y])
  (hts0 : nth1 cl.argTypes.toList 0 = some t) (hts1 : nth1 cl.argTypes.toList 1 = some t1) (hx : evL L x = some (.own id n z)) (hy : evL L y = some (.rsl q z cs)) (ht : lkT tb t = some e) (hk : e.k = .slice el) (hel : lkT tb el = some ee) (hz : Nat.beq ee.s z = true) (hz0 : Nat.beq z 0 = false) (hb : Nat.ble ee.b 1000 = true)
  (ht1 : lkT tb t1 = some e1) (hk1 : (match e1.k with | .slice _ => true | .str => true | _ => false) = true) (hg : h.get id = .arr el z n l) (hi : HInd id h) (hL : indL id L = true) (hm : (m.all fun i => !Nat.beq i id) = true) (hrd : rdNot id rd = true) (hG : indsB id X.gv = true)
  (hzz : (match ee.z with | .bad => false | v => Nat.beq v.cells.length ee.s) = true) (hones : ones cs = true) (hq : q ≠ 0) (hsm : n + q ≤ 1000000) (nx : Ops X sz rd all rest k ((d, .own id (n + q) z) :: L) (h.put id (.arr el z (n + q) (l ++ cs))) m Q) : Ops X sz rd all (o :: rest) k L h m Q := ⟨fun e0 he => by
 refine TriOps.cons (hw e0 he) (K := fun s' => RunK X sz rd k Q .normal s') ?_
 intro ro ρ w a next Q' h1 p h3 h4 h5
 refine ⟨fun _ _ => trivial, ?_⟩
 rw [show (wideR ro).round = ro from rfl, Oper.semAt_eq ro a.eval o (by rw [ho]; intro d q; cases q)]
 have hz := beqT hz
 have hS : VR ρ (.own id n z) (a.eval x) := by rw [← he.ev hx]; exact ev_ok h3 x
 have hY : VR ρ (.rsl q z cs) (a.eval y) := by rw [← he.ev hy]; exact ev_ok h3 y
 simp only [VR] at hY
 obtain ⟨hlen, ⟨h0, _⟩ | ⟨B, off, C, news, hYe, hC, hcs, hfz⟩⟩ := hY
 ·exact absurd h0 hq
 obtain ⟨ie, i1, i2, i3⟩ := (E.t el ee hel).si
 have hnb : ee.z ≠ .bad := fun q => by rw [q] at hzz; cases hzz
 have hzl : ee.z.cells.length = ee.s := by
  cases hv : ee.z <;> rw [hv] at hzz <;> first | (cases hzz; done) | exact beqT hzz
 have hzc : X.c.zcells el = some ee.z.cells := by
  unfold Ctx.zcells
  rw [(E.t el ee hel).z]
  cases hv : ee.z <;> first | exact absurd hv hnb | rfl
 obtain ⟨Z, z1, z2, z3⟩ := src_zero E.k i1 hzc (i2.trans hzl.symm) ρ
 have hu := under_eq E.k ((E.t t e ht).sl hk)
 obtain ⟨d1, u1, u2⟩ := (E.t t1 e1 ht1).kd
 have hu1 := under_eq E.k u1
 have hni : ∀ kk, d1 ≠ .int kk := fun kk qq => by
  subst qq
  rw [← u2] at hk1
  cases hk1
 rw [nth1_eq] at hts0 hts1
 have hnl : news.length = q * z := by rw [← hcs.length]; exact hlen
 have hsz : ie.size = z := i2.trans hz
 have src : Src X.c.P w cl.argTypes ie Z (.slice (some ⟨B, off, none⟩) q C) q news := ⟨.inl ⟨t1, d1, by simpa using hts1, hu1, hni, fun w' => by simp [Builtin.lenOf], fun w' hw' => by
   refine run_firstCells_some (P := X.c.P) w' ie.size q ⟨B, off, none⟩ q C news (by rw [hnl, hsz]) (fun j u hj => ?_)
   rw [add_off, show w'.cell? ⟨B, off + j, none⟩ = w.cell? ⟨B, off + j, none⟩ from by simp [World.cell?, hw']]
   exact p.hr.fz B _ u (hfz j u hj)⟩, by rw [hnl, hsz], z1, z2, by rw [hsz]; exact beqN hz0, by rw [i3]; exact bleT hb⟩
 obtain ⟨y', w', ρ', r1, r2, r3, r4⟩ := append_own p hg hi hG hS src hsz (ty := o.type) (by simpa using hts0) hu (E.k.tys _ _ i1) [] hcs (ones_ok hones hcs) hq hsm
 have hrun : (execOp a.eval o).run X.c.P w = .ok (.value y') w' := by
  obtain ⟨CS, hCS⟩ : ∃ CS, (execOp a.eval o).run X.c.P w = (builtin .append cl.argTypes o.type CS (cl.args.map a.eval)).run X.c.P w :=
   ⟨_, by simp only [execOp, ho, resolve, hc, Sem.run_bind, Sem.run_pure, Result.andThen_ok, invoke]; rfl⟩
  have hargs : cl.args.map a.eval = #[a.eval x, a.eval y] := by apply Array.ext'; simp [ha]
  rw [hCS, hargs, hYe]
  have r1' : (Builtin.append_ cl.argTypes o.type #[a.eval x, .slice (some ⟨B, off, none⟩) q C]).run X.c.P w = .ok y' w' := r1
  simp [builtin, r1']
 rw [hrun]
 have hL2 : indL id ((d, .own id (n + q) z) :: L) = true := by simp only [indL, indB]; exact hL
 obtain ⟨e', he', er'⟩ := known_env (σ := ρ') (L := L) (tm := a.tmps) (sz := sz) h3.1 (fun s v qq => by
  have := h3.2 s
  rw [he s v qq] at this
  exact ind_ok r3 v (indL_at hL s v qq) this)
 refine h5 (.own id (n + q) z) ⟨e', h.put id (.arr el z (n + q) (l ++ cs)), m⟩ y' w' ρ' ⟨e'.set und d (.own id (n + q) z), by rw [hd]; exact setD_some hs, nx.run _ (he'.set d _)⟩ ?_ r2 er' ?_ r4
 ·cases rd with
  | none => exact h1
  | some r =>
   obtain ⟨B', N', q1, q2⟩ := h1
   exact ⟨B', N', r3.m r _ (nb (show (!Nat.beq r id) = true from hrd)) q1, q2⟩
 ·have hmr : ∀ {m : List Nat} {D : List Deferred}, (m.all fun i => !Nat.beq i id) = true → MR ρ m D → MR ρ' m D := by
   intro m
   induction m with
   | nil => intro D _ q; exact q
   | cons d m ih =>
    intro D hh q
    simp only [List.all_cons, Bool.and_eq_true] at hh
    obtain ⟨B, N, r, q1, q2, q3⟩ := q
    exact ⟨B, N, r, r3.m d _ (nb hh.1) q1, ih hh.2 q2, q3⟩
  obtain ⟨D1, h5, h6⟩ := h4
  exact ⟨D1, hmr hm h5, h6⟩⟩
theorem Ops.data {d len z : Nat} {cap : Option Nat} {cs : List AV} {ty : TypeId} (hd : o.dst = some d) (hs : Nat.ble (d + 1) sz = true) (hw : Want all L o true) (hcl : cls X.c o.op = .alloc) (hop : Hop X L h o (.sl h.nxt 0 len cap z) (newRow h ty cs.length .leaf cs)) (hlen : cs.length = len * z) (hdt : datsB cs = true)
  (nx : Ops X sz rd all rest k ((d, .rsl len z cs) :: L) h m Q) : Ops X sz rd all (o :: rest) k L h m Q := ⟨fun e0 he => by
 refine TriOps.cons (hw e0 he) (K := fun s' => RunK X sz rd k Q .normal s') ?_
 intro ro ρ w a next Q' h1 p h3 h4 h5
 refine ⟨fun _ _ => trivial, ?_⟩
 have hopA := hop e0 he
 rw [show (wideR ro).round = ro from rfl, Oper.semAt_eq ro a.eval o (opA_defer hopA)]
 obtain ⟨b, b1, b2, b3, b4⟩ := alloc_spec hcl hopA
 have hbe : b = .row ⟨ty, cs.length, .leaf, cs, none⟩ := by
  have h7 : (newRow h ty cs.length .leaf cs).get h.nxt = (h.new b).get h.nxt := by rw [b1]
  rw [show newRow h ty cs.length .leaf cs = h.new (.row ⟨ty, cs.length, .leaf, cs, none⟩) from rfl, Heap.get_new, Heap.get_new, if_pos rfl, if_pos rfl] at h7
  exact h7.symm
 subst hbe
 have hbr : HR ρ (bare h.nxt) w := bare_hr h.nxt p.hr.lt p.hr.fz
 obtain ⟨nx', w', ρ1, q1, q2, q3⟩ := opA_ok E.k hbr (bare_wf _) (fun i a b => p.fr.1 i a) h3 (b4 (bare h.nxt) rfl)
 have hblk : ∀ B, B < w.heap.size → w'.heap[B]? = w.heap[B]? := fun B hB => q2.frame B hB (fun i N _ => bare_no _ i)
 have hFo : ∀ B, B < w.heap.size → ρ1.F B = ρ.F B := fun B hB => q2.fold B hB (fun i N _ => bare_no _ i)
 have hgetn : ((bare h.nxt).new (.row ⟨ty, cs.length, .leaf, cs, none⟩)).get h.nxt = .row ⟨ty, cs.length, .leaf, cs, none⟩ := by
  have := Heap.get_new (bare h.nxt) h.nxt (.row ⟨ty, cs.length, .leaf, cs, none⟩)
  rw [this]; exact if_pos rfl
 have hokn : ((bare h.nxt).new (.row ⟨ty, cs.length, .leaf, cs, none⟩)).ok h.nxt := by
  unfold Heap.ok; rw [hgetn]; simp only []; rw [Heap.row_of hgetn]; rfl
 rcases q3 with ⟨S, rfl, q3⟩ | ⟨_, q3⟩
 ·simp only [VR] at q3
  obtain ⟨B, N, C, e1, rfl, hC, _, _⟩ := q3
  have hro := q2.hr.ok h.nxt B N e1 hokn
  rw [hgetn] at hro
  have hro : RowOk ρ1 ⟨ty, cs.length, .leaf, cs, none⟩ B N w' := hro
  obtain ⟨L0, l1, l2, l3⟩ := RowOk.reads hro cs.length 0 (by simp)
  rw [read_whole ty cs cs.length rfl] at l1
  have hFB : ρ1.F B = [] := q2.hr.F_row e1 hokn (fun r => by rw [hgetn]; exact fun q => by cases q)
  have hBge : w.heap.size ≤ B := by
   rcases q2.newb h.nxt B N e1 (p.fr.1 _ (Nat.le_refl _)) with r | ⟨j, M, _, r⟩
   ·exact r
   ·exact absurd r (bare_no _ j)
  have g1 : ∀ b, b ≠ B → (fun b => if b = B then L0 else ρ1.F b) b = ρ1.F b := fun b q => if_neg q
  have g2 : (fun b => if b = B then L0 else ρ1.F b) B = L0 := if_pos rfl
  have f1 : ∀ (b j : Nat) (x : Value), (ρ1.F b)[j]? = some x → ((fun b => if b = B then L0 else ρ1.F b) b)[j]? = some x := fun b j x q => by
   by_cases hb : b = B
   ·subst hb; rw [hFB] at q; simp at q
   ·rw [g1 b hb]; exact q
  have f0 : ∀ (b j : Nat) (x : Value), (ρ.F b)[j]? = some x → ((fun b => if b = B then L0 else ρ1.F b) b)[j]? = some x := fun b j x q => f1 b j x (q2.sub.F b j x q)
  have f3 : FzW (fun b => if b = B then L0 else ρ1.F b) w' := fun b j x q => by
   by_cases hb : b = B
   ·subst hb; rw [g2] at q
    have := l3 j x q; rwa [Nat.zero_add] at this
   ·rw [g1 b hb] at q; exact q2.hr.fz b j x q
  have hsub : Sub ρ ⟨ρ.m, fun b => if b = B then L0 else ρ1.F b, ρ.V⟩ := ⟨fun _ _ e => e, f0, fun _ _ _ e => e⟩
  have hpi := p.frz ⟨q2.same, hblk⟩ f0 (fun b hb => (g1 b (by omega)).trans (hFo b hb)) f3
  rw [q1]
  refine h5 (.rsl len z cs) ⟨e0, h, m⟩ _ w' _ ⟨e0.set und d (.rsl len z cs), by rw [hd]; exact setD_some hs, nx.run _ (he.set d _)⟩ (h1.mono hsub) hpi (h3.mono hsub) (h4.mono hsub) ?_
  simp only [VR]
  refine ⟨hlen, .inr ⟨B, 0, C, L0, rfl, hC, ?_, fun j x q => ?_⟩⟩
  ·exact VRs.mono (ρ := ρ1.d) (σ := (⟨ρ.m, fun b => if b = B then L0 else ρ1.F b, ρ.V⟩ : Map).d) ⟨(fun _ _ e => by cases e), f1, (fun _ _ _ e => by cases e)⟩ cs (dats_ok cs hdt l1)
  ·show ((fun b => if b = B then L0 else ρ1.F b) B)[0 + j]? = some x
   rw [g2, Nat.zero_add]; exact q
 ·simp only [VR] at q3
  obtain ⟨B, N, C, e1, e2, _⟩ := q3
  cases e2⟩
omit E in
theorem Hop.box {t : Nat} {x : Operand} {v r : AV} {h' : Heap} (ho : o.op = .box t x) (hx : evL L x = some v) (hb : oBox h t v = some (r, h')) : Hop X L h o r h' := fun e' he => by
 rw [ho]; simp only [opA]; rw [he.ev hx, hb]; rfl
omit E in
theorem Hop.eqD {t u : Nat} {x y : Operand} {a b : AV} {r : Bool} (ho : o.op = .binOp .eql t x y u) (hx : evL L x = some a) (hy : evL L y = some b) (hn : (match a with | .int _ _ => false | .str _ => false | .nilifc => false | _ => true) = true) (hr : eqv X.c 6 t a b = some r) : Hop X L h o (.bool r) h := fun e' he => by
 rw [ho]; simp only [opA]; rw [he.ev hx, he.ev hy]
 cases a <;> first | (cases hn; done) | (simp only [oBinX, oBin, hr, val])
omit E in
theorem Hop.neD {t u : Nat} {x y : Operand} {a b : AV} {r : Bool} (ho : o.op = .binOp .neq t x y u) (hx : evL L x = some a) (hy : evL L y = some b) (hn : (match a with | .int _ _ => false | .str _ => false | .nilifc => false | _ => true) = true) (hr : eqv X.c 6 t a b = some r) : Hop X L h o (.bool (!r)) h := fun e' he => by
 rw [ho]; simp only [opA]; rw [he.ev hx, he.ev hy]
 cases a <;> first | (cases hn; done) | (simp only [oBinX, oBin, hr, val])
omit E in
theorem strEq_sA (a b : List UInt8) : strEq (a.map UInt8.toNat) (b.map UInt8.toNat) = bd (a = b) := by
 rw [strEq_eq, ← bd_dec]
 have h1 : ∀ l : List UInt8, (l.map UInt8.toNat).map UInt8.ofNat = l := fun l => by
  rw [List.map_map]
  have : (UInt8.ofNat ∘ UInt8.toNat) = id := by funext x; simp
  rw [this, List.map_id]
 rw [h1, h1]
 by_cases h : a = b <;> simp [h]
omit E in
theorem Hop.neS {t u : Nat} {x y : Operand} {a b : List UInt8} (ho : o.op = .binOp .neq t x y u) (hx : evL L x = some (sA a)) (hy : evL L y = some (sA b)) : Hop X L h o (.bool (!bd (a = b))) h := fun e' he => by
 rw [ho]; simp only [opA]; rw [he.ev hx, he.ev hy]
 simp only [sA, oBinX, oBin, strOp, strEq_sA, val]
/-! ## values that are made -/
def partsL (L : List (Nat × AV)) : List (Nat × Operand) → Option (List (Nat × AV))
 | [] => some []
 | (i, x) :: r => (match evL L x with | some v => (match partsL L r with | some vs => some ((i, v) :: vs) | none => none) | none => none)
omit E in
theorem partsL_ok {e : T AV} (he : Has e L) : ∀ {l : List (Nat × Operand)} {vs : List (Nat × AV)}, partsL L l = some vs → l.map (fun p => (p.1, ev e p.2)) = vs
 | [], vs, q => by cases q; rfl
 | (i, x) :: r, vs, q => by
  unfold partsL at q
  split at q
  ·rename_i v hv
   split at q
   ·rename_i us hu
    cases q
    simp only [List.map_cons]
    rw [he.ev hv, partsL_ok he hu]
   ·cases q
  ·cases q
def plOf (tb : List (Nat × TE)) : List (Nat × Nat) → Option (List (Nat × Nat))
 | [] => some []
 | (off, t) :: r => (match lkT tb t with | some e => (match plOf tb r with | some ps => some ((off, e.s) :: ps) | none => none) | none => none)
theorem plOf_ok : ∀ {fs : List Field} {pl : List (Nat × Nat)}, plOf tb (fs.map fun f => (f.offset, f.type)) = some pl → placesA X.c fs = some pl
 | [], pl, q => by cases q; rfl
 | f :: fs, pl, q => by
  simp only [List.map_cons] at q
  unfold plOf at q
  split at q
  ·rename_i e he
   split at q
   ·rename_i ps hps
    cases q
    have h1 := plOf_ok hps
    show (match X.c.size f.type with | some s => (match placesA X.c fs with | some r => some ((f.offset, s) :: r) | none => none) | none => none) = _
    rw [(E.t _ e he).size, h1]
   ·cases q
  ·cases q
theorem Hop.build {t : Nat} {ps : Array (Nat × Operand)} {vals : List (Nat × AV)} {e : TE} {fl pl : List (Nat × Nat)} {z cs : List AV} (ho : o.op = .build t ps) (hps : partsL L ps.toList = some vals) (ht : lkT tb t = some e) (hk : e.k = .struct fl) (hz : e.z = .agg z) (hp : plOf tb fl = some pl) (hf : fillA (nth1 pl) vals z = some cs) :
  Hop X L h o (.agg cs) h := fun e' he => by
 obtain ⟨fs, h1, h2⟩ := (E.t t e ht).struct hk
 have h3 := (E.t t e ht).z
 rw [← h2] at hp
 have h4 := plOf_ok E hp
 have h5 : nth pl = nth1 pl := by funext i; rw [nth_eq, nth1_eq]
 rw [ho]; simp only [opA, parts]
 rw [partsL_ok he hps]
 simp only [oBuild, h3, hz, h1, h4, h5, hf, val]
theorem Hop.bslice {t el len : Nat} {ps : Array (Nat × Operand)} {vals : List (Nat × AV)} {e ee : TE} {cs zc : List AV} (ho : o.op = .buildSlice t len ps) (hps : partsL L ps.toList = some vals) (ht : lkT tb t = some e) (hk : e.k = .slice el) (hel : lkT tb el = some ee) (hl0 : Nat.beq len 0 = false)
  (hzc : (match ee.z with | .bad => none | v => some v.cells) = some zc) (hsz : Nat.beq ee.s zc.length = true) (h0 : Nat.beq (len * ee.s) 0 = false) (h6 : Nat.ble (len * ee.s) 1000000 = true) (hf : fillA (fun i => some (i * ee.s, ee.s)) vals (reps len zc) = some cs) : Hop X L h o (.sl h.nxt 0 len (some len) ee.s) (newRow h el cs.length .leaf cs) := fun e' he => by
 have h1 := (E.t t e ht).sl hk
 have h2 := (E.t el ee hel).size
 have h3 : X.c.zcells el = some zc := by
  unfold Ctx.zcells
  rw [(E.t el ee hel).z]
  cases hv : ee.z <;> rw [hv] at hzc <;> first | (cases hzc; done) | exact hzc
 rw [ho]; simp only [opA, parts]
 rw [partsL_ok he hps]
 simp only [oBuildSlice, h1, h2, hl0, h3, hsz, h0, h6, hf, valH]
end
end Go.Px
end
section
namespace Go.Px
def onceB : List (Nat × AV) → Bool
 | [] => true
 | (t, _) :: r => (match r.all fun p => !Nat.beq p.1 t with | true => onceB r | false => false)
theorem once_lk : ∀ {L : List (Nat × AV)}, onceB L = true → ∀ p ∈ L, lkO L p.1 = some p.2
 | [], _, p, h => by cases h
 | (t, v) :: r, h, p, hp => by
  simp only [onceB] at h
  split at h
  ·rename_i hr
   rw [List.all_eq_true] at hr
   unfold lkO
   rcases List.mem_cons.1 hp with rfl | hp
   ·simp only [Nat.beq_refl]
   ·have := hr p hp
    rw [beqF (nb this)]
    exact once_lk h p hp
  ·cases h
theorem lk_mem : ∀ {L : List (Nat × AV)} {t : Nat} {v : AV}, lkO L t = some v → (t, v) ∈ L
 | [], _, _, h => by cases h
 | (s, u) :: r, t, v, h => by
  unfold lkO at h
  split at h
  ·rename_i hs; cases h; rw [beqT hs]; exact List.mem_cons_self
  ·exact List.mem_cons_of_mem _ (lk_mem h)
def rdA (rd : Option Nat) : List AV := match rd with | some l => [.ptr l 0] | none => []
def held (L : List (Nat × AV)) (m : List Nat) (rd : Option Nat) : List AV := L.map (·.2) ++ (m.map (fun d => AV.ptr d 0) ++ rdA rd)
theorem held_in {X : Cx} {ρ : Map} {L : List (Nat × AV)} {m : List Nat} {rd ro : Option Nat} {e : T AV} {tm : Array Value} {sz : Nat} {D : List Deferred} (h1 : RoX X ρ rd ro) (er : ER ρ e tm sz) (he : Has e L) (ho : onceB L = true) (h4 : MRX X ρ m D) :
  ∃ gx, VRs ρ (held L m rd) gx ∧ ∀ σ, VRs σ (held L m rd) gx → RoX X σ rd ro ∧ MRX X σ m D ∧ ∀ t v, lkO L t = some v → VR σ v (tm.getD t undef) := by
 have s1 : VRs ρ (L.map (·.2)) (L.map fun p => tm.getD p.1 undef) := VRs.map _ _ L fun p hp => by
  have := er.2 p.1
  rwa [he p.1 p.2 (once_lk ho p hp)] at this
 have s2 : ∀ σ, VRs σ (L.map (·.2)) (L.map fun p => tm.getD p.1 undef) → ∀ t v, lkO L t = some v → VR σ v (tm.getD t undef) := fun σ q t v hl => by
  obtain ⟨i, hi⟩ := List.getElem?_of_mem (lk_mem hl)
  exact (VRs.iff.1 q).2 i v _ (by rw [List.getElem?_map, hi]; rfl) (by rw [List.getElem?_map, hi]; rfl)
 obtain ⟨D1, h4, hD⟩ := h4
 have m1 : ∃ mx, VRs ρ (m.map fun d => AV.ptr d 0) mx ∧ ∀ σ, VRs σ (m.map fun d => AV.ptr d 0) mx → MR σ m D1 := by
  clear s1 s2 hD
  induction m generalizing D1 with
  | nil => exact ⟨[], by simp [VRs], fun σ _ => h4⟩
  | cons d m ih =>
   obtain ⟨B, N, r, q1, q2, rfl⟩ := h4
   obtain ⟨mx, i1, i2⟩ := ih _ q2
   refine ⟨.pointer (some ⟨B, 0, none⟩) :: mx, ?_, fun σ q => ?_⟩
   ·simp only [List.map_cons, VRs, VR]; exact ⟨_, _, ⟨B, N, q1, rfl⟩, i1, rfl⟩
   ·simp only [List.map_cons, VRs, VR] at q
    obtain ⟨x, y, ⟨B', N', q3, q4⟩, q5, q6⟩ := q
    cases q6
    cases q4
    exact ⟨B, N', r, q3, i2 σ q5, rfl⟩
 obtain ⟨mx, m2, m3⟩ := m1
 have r1 : ∃ rx, VRs ρ (rdA rd) rx ∧ ∀ σ, VRs σ (rdA rd) rx → RoX X σ rd ro := by
  cases rd with
  | none => exact ⟨[], by simp [rdA, VRs], fun σ _ => h1⟩
  | some l =>
   obtain ⟨B, N, q1, q2⟩ := h1
   refine ⟨[.pointer (some ⟨B, 0, none⟩)], by simp only [rdA, VRs, VR]; exact ⟨_, _, ⟨B, N, q1, rfl⟩, rfl, rfl⟩, fun σ q => ?_⟩
   simp only [rdA, VRs, VR] at q
   obtain ⟨x, y, ⟨B', N', q3, q4⟩, q5, q6⟩ := q
   cases q6
   cases q4
   exact ⟨B, N', q3, q2⟩
 obtain ⟨rx, r2, r3⟩ := r1
 refine ⟨(L.map fun p => tm.getD p.1 undef) ++ (mx ++ rx), s1.append (m2.append r2), fun σ q => ?_⟩
 have split : ∀ {a b : List AV} {A B : List Value}, a.length = A.length → VRs σ (a ++ b) (A ++ B) → VRs σ a A ∧ VRs σ b B := fun {a b A B} hl q => by
  obtain ⟨q1, q2⟩ := VRs.iff.1 q
  constructor
  ·refine VRs.iff.2 ⟨hl, fun i x y hx hy => q2 i x y ?_ ?_⟩
   ·rw [List.getElem?_append_left (List.getElem?_eq_some_iff.1 hx).1]; exact hx
   ·rw [List.getElem?_append_left (List.getElem?_eq_some_iff.1 hy).1]; exact hy
  ·refine VRs.iff.2 ⟨by simp only [List.length_append] at q1; omega, fun i x y hx hy => q2 (a.length + i) x y ?_ ?_⟩
   ·rw [List.getElem?_append_right (by omega), show a.length + i - a.length = i by omega]; exact hx
   ·rw [List.getElem?_append_right (by omega), show a.length + i - A.length = i by omega]; exact hy
 obtain ⟨q1, q2⟩ := split (by simp) q
 obtain ⟨q3, q4⟩ := split m2.length q2
 exact ⟨r3 σ q4, ⟨D1, m3 σ q3, hD⟩, s2 σ q1⟩
theorem VRs.split {σ : Map} {a b : List AV} {A B : List Value} (hl : a.length = A.length) (q : VRs σ (a ++ b) (A ++ B)) : VRs σ a A ∧ VRs σ b B := by
 obtain ⟨q1, q2⟩ := VRs.iff.1 q
 constructor
 ·refine VRs.iff.2 ⟨hl, fun i x y hx hy => q2 i x y ?_ ?_⟩
  ·rw [List.getElem?_append_left (List.getElem?_eq_some_iff.1 hx).1]; exact hx
  ·rw [List.getElem?_append_left (List.getElem?_eq_some_iff.1 hy).1]; exact hy
 ·refine VRs.iff.2 ⟨by simp only [List.length_append] at q1; omega, fun i x y hx hy => q2 (a.length + i) x y ?_ ?_⟩
  ·rw [List.getElem?_append_right (by omega), show a.length + i - a.length = i by omega]; exact hx
  ·rw [List.getElem?_append_right (by omega), show a.length + i - A.length = i by omega]; exact hy
theorem PI.more {X : Cx} {ρ : Map} {h : Heap} {w : World} (p : PI X ρ h w) {gv : List AV} {gx : List Value} (q : VRs ρ gv gx) : PI ⟨X.c, X.w0, X.F0, X.opn, X.g, none, [], gv ++ X.gv, gx ++ X.gx⟩ ρ h w :=
 {p with keep := q.append p.keep }
theorem PI.less {X : Cx} {ρ : Map} {h : Heap} {w : World} {gv : List AV} {gx : List Value} (p : PI ⟨X.c, X.w0, X.F0, X.opn, X.g, none, [], gv ++ X.gv, gx ++ X.gx⟩ ρ h w) (hl : gv.length = gx.length) : PI X ρ h w ∧ VRs ρ gv gx :=
 ⟨{ p with keep := (VRs.split hl p.keep).2 }, (VRs.split hl p.keep).1⟩
def FinI (c : Ctx) (res : List ResultVar) (K : AV → Heap → Prop) : Post := fun x s => (x = .normal ∨ x = .ret) ∧ ∃ h' vs, leave s.h s.m = some h' ∧ resA c h' s.e res = some vs ∧ K (one vs) h'
section
variable {X : Cx} {tb : List (Nat × TE)} (E : Env X.c tb) {sz : Nat} {rd : Option Nat} {all : Array Oper} {o : Oper} {rest : List Oper} {k : List It} {L : List (Nat × AV)} {h : Heap} {m : List Nat} {Q : Post}
include E
theorem callee {g : FuncId} {fn : Func} {body : Code} (hf : X.c.P.funcs[g]? = some fn) (hb : fn.body = some body) {args : List AV} (hlen : args.length ≤ fn.ntmps) {gv : List AV} {K : AV → Heap → Prop}
  (H : ∀ gx, Go ⟨X.c, X.w0, X.F0, X.opn, X.g, none, [], gv ++ X.gv, gx ++ X.gx⟩ fn.ntmps none [.code body] (argsL args 0) h [] (FinI X.c fn.results.toList K))
  {ρ : Map} {w : World} (p : PI X ρ h w) {A : List Value} (hA : VRs ρ args A) {gx : List Value} (hg : VRs ρ gv gx) {R : Value → World → Prop} (hR : ∀ v h' z w' ρ', K v h' → PI X ρ' h' w' → VRs ρ' gv gx → VR ρ' v z → R z w') :
  (callFunc g A.toArray).run X.c.P w = .ok (.enter g A.toArray) w ∧ CallsIn Fence.wide 0 X.c.P g A.toArray w (EndR R) := by
 have hnm : fn.name ≠ "runtime.NumGoroutine" := by simpa using E.k.names g fn hf
 refine ⟨by simp [callFunc, hf, hnm, hb, Sem.run], callsIn_of_wp_marks hf hb trivial ?_⟩
 have hrun := (H gx).run (T.put und args (env0 und fn.ntmps) 0) (argsL_has args _ 0)
 have ht : Tri ⟨X.c, X.w0, X.F0, X.opn, X.g, none, [], gv ++ X.gv, gx ++ X.gx⟩ fn.ntmps none body ⟨T.put und args (env0 und fn.ntmps) 0, h, []⟩ (FinI X.c fn.results.toList K) := hrun
 refine ht none ρ w _ _ rfl (p.more hg) (args_er hA hlen) ⟨[], rfl, rfl⟩ fun x s' a' w' ρ' ⟨hx, h', vs, q1, q2, q3⟩ g1 g2 g3 g4 => ?_
 have hfin : LeavesInM Fence.wide 0 X.c.P fn a'.tmps (EndR R) a'.defers .returning w' := by
  refine leave_ok g2.hr g2.wf (g4.nil rfl) q1 fun w2 gg => ?_
  have g5 := g2.good gg (ArrKeep.leave q1)
  obtain ⟨z, z1, z2⟩ := results_ok E.k g5.hr g3 q2
  obtain ⟨g6, g7⟩ := g5.less hg.length
  exact ⟨z, z1, hR _ _ z w2 ρ' q3 g6 g7 z2⟩
 rcases hx with rfl | rfl
 ·exact hfin
 ·exact hfin
theorem Ops.inl {d : Nat} {cl : Call} {f : Operand} {g : FuncId} {fn : Func} {body : Code} {first cap vs : List AV} (hd : o.dst = some d) (hs : Nat.ble (d + 1) sz = true) (hw : Want all L o true) (ho : o.op = .call cl) (hc : cl.callee = .value f) (hfv : evL L f = some (.fn (.func g) first cap))
  (hv : evsL L cl.args.toList = some vs) (hf : X.c.P.funcs[g]? = some fn) (hb : fn.body = some body) (hlen : Nat.ble (first ++ vs ++ cap).length fn.ntmps = true) (hon : onceB L = true)
  (H : ∀ gx, Go ⟨X.c, X.w0, X.F0, X.opn, X.g, none, [], held L m rd ++ X.gv, gx ++ X.gx⟩ fn.ntmps none [.code body] (argsL (first ++ vs ++ cap) 0) h [] (FinI X.c fn.results.toList fun v h' => Ops X sz rd all rest k ((d, v) :: L) h' m Q)) : Ops X sz rd all (o :: rest) k L h m Q := ⟨fun e0 he => by
 refine TriOps.cons (hw e0 he) (K := fun s' => RunK X sz rd k Q .normal s') ?_
 intro ro ρ w a next Q' h1 p h3 h4 h5
 refine ⟨fun _ _ => trivial, ?_⟩
 rw [show (wideR ro).round = ro from rfl, Oper.semAt_eq ro a.eval o (by rw [ho]; intro d q; cases q)]
 have hfv' := ev_ok h3 f
 rw [he.ev hfv] at hfv'
 simp only [VR, FR] at hfv'
 obtain ⟨f', F, C, e1, e2, e3, e4⟩ := hfv'
 subst e1
 have hargs := evs_ok h3 cl.args.toList
 rw [he.evs hv] at hargs
 have hA := VRs.append (VRs.append e2 hargs) e3
 obtain ⟨gx, g1, g2⟩ := held_in h1 h3 he hon h4
 obtain ⟨q1, q2⟩ := callee E hf hb (bleT hlen) H p hA g1 (R := fun z w' => next (a.put o.dst z) w') (fun v h' z w' ρ' hK hp hgv hz => by
  obtain ⟨r1, r2, r3⟩ := g2 ρ' hgv
  obtain ⟨e', he', er'⟩ := known_env (σ := ρ') (L := L) (tm := a.tmps) (sz := sz) h3.1 r3
  exact h5 v ⟨e', h', m⟩ z w' ρ' ⟨e'.set und d v, by rw [hd]; exact setD_some hs, hK.run _ (he'.set d v)⟩ r1 hp er' r2 hz)
 have hrun : (execOp a.eval o).run X.c.P w = .ok (.enter g (F ++ cl.args.toList.map a.eval ++ C).toArray) w := by
  rw [← q1]
  simp only [execOp, ho, resolve, hc, e4, Deferred.ofValue, Sem.run_bind, Sem.run_pure, Result.andThen_ok, invoke]
  congr 2
  apply Array.ext'; simp
 rw [hrun]
 exact uponIn_of_next (R := fun z w' => next (a.put o.dst z) w') (nx := .enter g _) q2 fun z w' r => r⟩
omit E in
theorem Go.retI {X' : Cx} {sz' : Nat} {k' : List It} {L' : List (Nat × AV)} {c : Ctx} {res : List ResultVar} {vs : List AV} {K : AV → Heap → Prop} (hr : resL L' res = some vs) (n : K (one vs) h) : Go X' sz' none (.code .ret :: k') L' h [] (FinI c res K) :=
 Go.ret fun e he => ⟨.inr rfl, h, vs, rfl, resL_ok he hr, n⟩
omit E in
theorem Go.endI {X' : Cx} {sz' : Nat} {L' : List (Nat × AV)} {c : Ctx} {res : List ResultVar} {vs : List AV} {K : AV → Heap → Prop} (hr : resL L' res = some vs) (n : K (one vs) h) : Go X' sz' none [] L' h [] (FinI c res K) :=
 Go.nil fun e he => ⟨.inl rfl, h, vs, rfl, resL_ok he hr, n⟩
end
end Go.Px
end
section
namespace Go.Px
noncomputable def envLs (L : List (Nat × AV)) (sz : Nat) : List AV := (List.range sz).map fun t => (lkO L t).getD .bad
theorem envLs_er {ρ : Map} {L : List (Nat × AV)} {e : T AV} {tm : Array Value} {sz : Nat} (er : ER ρ e tm sz) (he : Has e L) : ER ρ (T.put und (envLs L sz) .leaf 0) tm sz := by
 refine ⟨er.1, fun t => ?_⟩
 rw [get_put]
 simp only [Nat.zero_le, if_true, Nat.sub_zero, get_leaf]
 by_cases ht : t < sz
 ·unfold envLs
  rw [List.getElem?_map, List.getElem?_range ht]
  simp only [Option.map_some, Option.getD_some]
  cases hl : lkO L t with
  | none => simp [VR]
  | some v =>
   have := er.2 t
   rw [he t v hl] at this
   exact this
 ·rw [List.getElem?_eq_none (by simp [envLs]; omega)]
  have : tm.getD t undef = undef := by rw [Array.getD_eq_getD_getElem?, Array.getElem?_eq_none (by rw [er.1]; omega)]; rfl
  rw [this]; exact und_ok ρ
noncomputable def loopH (h : Heap) (L : List (Nat × AV)) (sz : Nat) (ps : List Tmp) (assign body : Code) : Heap :=
 (h.new (.dfr true)).new (.loop ⟨.ready, none, 0, T.put und (envLs L sz) .leaf 0, sz, ps, assign, body, h.nxt⟩)
def setL : List Tmp → List AV → List (Nat × AV) → List (Nat × AV)
 | p :: ps, a :: avs, L => setL ps avs ((p, a) :: L)
 | _, _, L => L
theorem setPs_has : ∀ {ps : List Tmp} {avs : List AV} {e e' : T AV} {sz : Nat} {L : List (Nat × AV)}, setPs e ps avs sz = some e' → Has e L → Has e' (setL ps avs L)
 | [], [], e, e', sz, L, q, h => by
  have q' : some e = some e' := q
  cases q'; exact h
 | [], a :: avs, e, e', sz, L, q, h => by
  have q' : (none : Option (T AV)) = some e' := q
  cases q'
 | p :: ps, [], e, e', sz, L, q, h => by
  have q' : (none : Option (T AV)) = some e' := q
  cases q'
 | p :: ps, a :: avs, e, e', sz, L, q, h => by
  have q' : (match Nat.ble (p + 1) sz with | true => setPs (e.set und p a) ps avs sz | false => none) = some e' := q
  split at q'
  ·exact setPs_has (L := (p, a) :: L) q' (h.set p a)
  ·cases q'
theorem setPs_some : ∀ {ps : List Tmp} {avs : List AV} {sz : Nat} (e : T AV), Nat.beq ps.length avs.length = true → (ps.all fun p => Nat.ble (p + 1) sz) = true → ∃ e', setPs e ps avs sz = some e'
 | [], [], sz, e, _, _ => ⟨e, rfl⟩
 | [], a :: avs, sz, e, h, _ => by cases h
 | p :: ps, [], sz, e, h, _ => by cases h
 | p :: ps, a :: avs, sz, e, h, k => by
  simp only [List.all_cons, Bool.and_eq_true] at k
  obtain ⟨e', q⟩ := setPs_some (ps := ps) (avs := avs) (e.set und p a) h k.2
  refine ⟨e', ?_⟩
  show (match Nat.ble (p + 1) sz with | true => setPs (e.set und p a) ps avs sz | false => none) = some e'
  rw [k.1]; exact q
section
variable {X : Cx} {tb : List (Nat × TE)} (E : Env X.c tb) {sz : Nat} {all : Array Oper} {o : Oper} {rest : List Oper} {k : List It} {L : List (Nat × AV)} {h : Heap} {m : List Nat} {Q : Post}
include E
def AfterR (X : Cx) (sz : Nat) (rd : Option Nat) (k : List It) (L : List (Nat × AV)) (l : Nat) (m : List Nat) (Q : Post) (h : Heap) : Prop :=
 ∃ r, h.get l = .loop r ∧ r.state ≠ .busy ∧ ∀ e, Has e L → RunK X sz rd k Q (match r.pending with | none => .normal | some x => x) ⟨e, h.put l (.loop { r with state := .exhausted }), m⟩
theorem Go.range {f : Operand} {ps : Array Tmp} {assign body bodyG : Code} {g : FuncId} {fn : Func} {first cap : List AV} (hfv : evL L f = some (.fn (.func g) first cap)) (hf : X.c.P.funcs[g]? = some fn) (hb : fn.body = some bodyG)
  (hlen : Nat.ble (first ++ [AV.fn (.yield (h.nxt + 1)) [] []] ++ cap).length fn.ntmps = true) (hon : onceB L = true)
  (H : ∀ gx, Go ⟨X.c, X.w0, X.F0, X.opn, X.g, none, [], (held L (h.nxt :: m) none ++ [AV.ptr (h.nxt + 1) 0]) ++ X.gv, gx ++ X.gx⟩ fn.ntmps none [.code bodyG] (argsL (first ++ [AV.fn (.yield (h.nxt + 1)) [] []] ++ cap) 0) (loopH h L sz ps.toList assign body) []
   (FinI X.c fn.results.toList fun _ h' => AfterR X sz none k L (h.nxt + 1) (h.nxt :: m) Q h')) (hro : X.ro = none := by rfl) : Go X sz none (.code (.rangeFunc f ps assign body) :: k) L h m Q := ⟨fun e0 he => by
 intro ro ρ w a Q' h1 p h3 h4 h5
 refine wpIn_rangeFunc fun fn' _ => ?_
 have hE := envLs_er h3 he
 have hel : enterLoop h 0 (T.put und (envLs L sz) .leaf 0) sz ps.toList assign body none = some (h.nxt + 1, [h.nxt], loopH h L sz ps.toList assign body) := rfl
 obtain ⟨B, N, mark, w1, ρ1, q1, g1, hl1, hm1⟩ := enterLoop_ok (c := X.c) (P := X.c.P) (fn' := fn') p.hr p.wf p.fr hE (rd := none) (show RoOk ρ none ro from (show ro = X.ro from h1).trans hro) hel
 have p1 : PI X ρ1 (loopH h L sz ps.toList assign body) w1 := p.good g1 ((ArrKeep.new rfl).trans (ArrKeep.new rfl))
 have hm2 : MRX X ρ1 (h.nxt :: m) (mark ++ a.defers) := MRX.push (m := [h.nxt]) hm1 (h4.mono g1.sub)
 obtain ⟨gx, b1, b2⟩ := held_in (L := L) (h1.mono g1.sub) (h3.mono g1.sub) he hon hm2
 have b3 : VRs ρ1 (held L (h.nxt :: m) none ++ [AV.ptr (h.nxt + 1) 0]) (gx ++ [.pointer (some ⟨B, 0, none⟩)]) := b1.append (by simp only [VRs, VR]; exact ⟨_, _, ⟨B, N, hl1, rfl⟩, rfl, rfl⟩)
 have hfv' := VR.mono g1.sub _ (ev_ok h3 f)
 rw [he.ev hfv] at hfv'
 simp only [VR, FR] at hfv'
 obtain ⟨f', F, C, e1, e2, e3, e4⟩ := hfv'
 subst e1
 have hy : VRs ρ1 [AV.fn (.yield (h.nxt + 1)) [] []] [Value.func (.yield B) #[] #[]] := by
  simp only [VRs, VR, FR]
  exact ⟨_, _, ⟨_, [], [], ⟨B, N, hl1, rfl⟩, rfl, rfl, rfl⟩, rfl, rfl⟩
 have hA := VRs.append (VRs.append e2 hy) e3
 obtain ⟨c1, c2⟩ := callee E hf hb (bleT hlen) H p1 hA b3 (R := fun z w2 => ∃ ρ2 h2, AfterR X sz none k L (h.nxt + 1) (h.nxt :: m) Q h2 ∧ PI X ρ2 h2 w2 ∧ VRs ρ2 (held L (h.nxt :: m) none ++ [AV.ptr (h.nxt + 1) 0]) (gx ++ [.pointer (some ⟨B, 0, none⟩)])) (fun v h' z w' ρ' hK hp hgv hz => ⟨ρ', h', hK, hp, hgv⟩)
 have harr : (F.toArray ++ #[Value.func (.yield B) #[] #[]] ++ C.toArray) = (F ++ [Value.func (.yield B) #[] #[]] ++ C).toArray := by apply Array.ext'; simp
 refine ⟨B, mark, w1, { target := .fn (.func g) C.toArray, args := F.toArray ++ #[Value.func (.yield B) #[] #[]] }, w1, g, F.toArray ++ #[Value.func (.yield B) #[] #[]] ++ C.toArray, w1, q1, ?_, fun _ _ => trivial, ?_, fun q => by simp [wideR, Fence.wide] at q, ?_⟩
 ·simp only [resolve, e4, Deferred.ofValue, Sem.run_pure]
  simp [Act.eval]
 ·simp only [invoke]
  have hcf : (callFunc g (F.toArray ++ #[Value.func (.yield B) #[] #[]] ++ C.toArray)).run X.c.P w1 = .ok (.enter g (F ++ [Value.func (.yield B) #[] #[]] ++ C).toArray) w1 := by rw [harr]; exact c1
  rw [harr] at hcf ⊢
  exact hcf
 ·rw [harr]
  refine CallsIn.mono (callsIn_ro c2) fun e w' r => ?_
  cases e with
  | panicked ch => exact r.elim
  | outgrown => exact r.elim
  | returned z =>
   obtain ⟨ρ2, h2, ⟨r, hg, hnb, hrun⟩, hp, hgv⟩ := r
   obtain ⟨v1, v2⟩ := VRs.split b1.length hgv
   simp only [VRs, VR] at v2
   obtain ⟨x, y, ⟨B', N', v3, v4⟩, _, v5⟩ := v2
   cases v5
   cases v4
   obtain ⟨r1, r2, r3⟩ := b2 ρ2 v1
   obtain ⟨fn0, tm, D, M, t1, t2, t3⟩ := ALoop.get hp.hr v3 hg
   have hlt := hp.hr.lt _ B N' v3
   have g3 := Good.putBlock hp.hr hp.wf v3 (.loop r) (.loop { r with state := .exhausted })
    (.loop { state := .exhausted, pending := pendOf r.pending, fn := fn0, tmps := tm, params := r.params.toArray, assign := r.assign, body := r.body, defers := D }) hg rfl (by simp) rfl
    (by simp only [ABR]; exact ⟨fn0, tm, D, M, World.putObj_heap_same hlt, t2, t3⟩)
   have hp3 := hp.good g3 (ArrKeep.put rfl)
   refine ⟨pendOf r.pending, _, run_endLoop t1 hnb, ?_⟩
   obtain ⟨e', he', er'⟩ := known_env (σ := ρ2) (L := L) (tm := a.tmps) (sz := sz) h3.1 r3
   have hrun' := hrun e' he'
   have fin := fun (x : Ex) (hx : (match r.pending with | none => Ex.normal | some x => x) = x) => h5 x ⟨e', h2.put (h.nxt + 1) (.loop { r with state := .exhausted }), h.nxt :: m⟩ { a with defers := mark ++ a.defers } _ ρ2 (hx ▸ hrun') r1 hp3 er' r2
   cases hpd : r.pending with
   | none =>
    have := fin .normal (by rw [hpd])
    simp only [hpd, pendOf] at this ⊢
    exact this
   | some x =>
    cases x with
    | normal =>
     have := fin .normal (by rw [hpd])
     simp only [hpd, pendOf, exCode] at this ⊢
     exact this
    | exit id =>
     have := fin (.exit id) (by rw [hpd])
     simp only [hpd, pendOf, exCode] at this ⊢
     exact wpIn_exit this
    | ret =>
     have := fin .ret (by rw [hpd])
     simp only [hpd, pendOf, exCode] at this ⊢
     exact wpIn_ret this⟩
def AfterB (X : Cx) (sz : Nat) (rd : Option Nat) (all : Array Oper) (rest : List Oper) (k : List It) (L : List (Nat × AV)) (d l : Nat) (m : List Nat) (Q : Post) : Post := fun x s =>
 ∃ r, s.h.get l = .loop r ∧ (match x with
  | .normal => Ops X sz rd all rest k ((d, .bool true) :: L) (s.h.put l (.loop { r with state := .ready, pending := none })) m Q
  | x => Ops X sz rd all rest k ((d, .bool false) :: L) (s.h.put l (.loop { r with state := .done, pending := some x })) m Q)
def AfterA (X : Cx) (sz l : Nat) (body : Code) (Q : Post) : Post := fun x s => x = .normal ∧ ∃ r, s.h.get l = .loop r ∧ r.state = .ready ∧ RunK X sz (some l) [.code body] Q .normal ⟨s.e, s.h.put l (.loop { r with state := .busy }), s.m⟩
omit E in
theorem Go.body {X' : Cx} {sz' l : Nat} {L' : List (Nat × AV)} {body : Code} {r : ALoop} (hl : h.get l = .loop r) (hs : r.state = .ready) (n : Go X' sz' (some l) [.code body] L' (h.put l (.loop { r with state := .busy })) m Q) : Go X' sz' (some l) [] L' h m (AfterA X' sz' l body Q) :=
 Go.nil fun e he => ⟨rfl, r, hl, hs, n.run e he⟩
omit E in
theorem Go.roundN {X' X : Cx} {sz' sz l d : Nat} {rd : Option Nat} {L' : List (Nat × AV)} {m' : List Nat} {r : ALoop} (hl : h.get l = .loop r) (n : Ops X sz rd all rest k ((d, .bool true) :: L) (h.put l (.loop { r with state := .ready, pending := none })) m Q) : Go X' sz' (some l) [] L' h m' (AfterB X sz rd all rest k L d l m Q) :=
 Go.nil fun e he => ⟨r, hl, n⟩
omit E in
theorem Go.roundR {X' X : Cx} {sz' sz l d : Nat} {rd : Option Nat} {L' : List (Nat × AV)} {m' : List Nat} {r : ALoop} {k' : List It} (hl : h.get l = .loop r) (n : Ops X sz rd all rest k ((d, .bool false) :: L) (h.put l (.loop { r with state := .done, pending := some .ret })) m Q) : Go X' sz' (some l) (.code .ret :: k') L' h m' (AfterB X sz rd all rest k L d l m Q) :=
 Go.ret fun e he => ⟨r, hl, n⟩
omit E in
theorem Ops.round {rd : Option Nat} {d l : Nat} {cl : Call} {f : Operand} {vs lst : List AV} {r : ALoop} (hd : o.dst = some d) (hs : Nat.ble (d + 1) sz = true) (hw : Want all L o true) (ho : o.op = .call cl) (hc : cl.callee = .value f) (hfv : evL L f = some (.fn (.yield l) [] [])) (hv : evsL L cl.args.toList = some vs)
  (hl : h.get l = .loop r) (hrs : r.state = .ready) (hre : r.e = T.put und lst .leaf 0) (hps : Nat.beq r.params.length vs.length = true) (hps2 : (r.params.all fun p => Nat.ble (p + 1) r.sz) = true) (hon : onceB L = true)
  (H : ∀ gx, Go ⟨X.c, X.w0, X.F0, X.opn, X.g, none, [], (held L m rd ++ [AV.ptr l 0]) ++ X.gv, gx ++ X.gx⟩ r.sz (some l) [.code r.assign] (setL r.params vs (argsL lst 0)) h [] (AfterA ⟨X.c, X.w0, X.F0, X.opn, X.g, none, [], (held L m rd ++ [AV.ptr l 0]) ++ X.gv, gx ++ X.gx⟩ r.sz l r.body (AfterB X sz rd all rest k L d l m Q))) : Ops X sz rd all (o :: rest) k L h m Q := ⟨fun e0 he => by
 refine TriOps.cons (hw e0 he) (K := fun s' => RunK X sz rd k Q .normal s') ?_
 intro ro ρ w a next Q' h1 p h3 h4 h5
 refine ⟨fun _ _ => trivial, ?_⟩
 rw [show (wideR ro).round = ro from rfl, Oper.semAt_eq ro a.eval o (by rw [ho]; intro d q; cases q)]
 have hfv' := ev_ok h3 f
 rw [he.ev hfv] at hfv'
 simp only [VR, VRs, FR] at hfv'
 obtain ⟨f', F, C, ⟨B, N, hB, rfl⟩, rfl, rfl, e4⟩ := hfv'
 have hargs := evs_ok h3 cl.args.toList
 rw [he.evs hv] at hargs
 obtain ⟨gx0, b1, b2⟩ := held_in h1 h3 he hon h4
 have b3 : VRs ρ (held L m rd ++ [AV.ptr l 0]) (gx0 ++ [.pointer (some ⟨B, 0, none⟩)]) := b1.append (by simp only [VRs, VR]; exact ⟨_, _, ⟨B, N, hB, rfl⟩, rfl, rfl⟩)
 obtain ⟨fn0, tm, D, M, p1, p2, p3⟩ := ALoop.get p.hr hB hl
 obtain ⟨e, hpe⟩ := setPs_some (sz := r.sz) r.e hps hps2
 obtain ⟨hlen, her⟩ := setPs_ok hpe hargs p2
 have hhas : Has e (setL r.params vs (argsL lst 0)) := setPs_has hpe (by rw [hre]; exact argsL_has lst .leaf 0)
 have hy := run_yield (P := X.c.P) (args := (cl.args.toList.map a.eval).toArray) p1 (by simpa using hlen)
 have hrun : (execOp a.eval o).run X.c.P w = (Instr.yield B (cl.args.toList.map a.eval).toArray).run X.c.P w := by
  simp only [execOp, ho, resolve, hc, e4, Deferred.ofValue, Sem.run_bind, Sem.run_pure, Result.andThen_ok, invoke]
  congr 2
  apply Array.ext'; simp
 rw [hrun, hy]
 refine uponIn_of_next (R := fun z w' => next (a.put o.dst z) w') ?_ fun z w' r => r
 refine roundIn_of_wpIn trivial ?_
 have hz : (r.params.toArray.zip (cl.args.toList.map a.eval).toArray).foldl (fun tmps (p : Tmp × Value) => tmps.setIfInBounds p.1 p.2) tm = (r.params.zip (cl.args.toList.map a.eval)).foldl (fun tmps (p : Tmp × Value) => tmps.setIfInBounds p.1 p.2) tm := by
  simp
 have hA := (H (gx0 ++ [.pointer (some ⟨B, 0, none⟩)])).run e hhas
 have htA : Tri ⟨X.c, X.w0, X.F0, X.opn, X.g, none, [], (held L m rd ++ [AV.ptr l 0]) ++ X.gv, (gx0 ++ [.pointer (some ⟨B, 0, none⟩)]) ++ X.gx⟩ r.sz (some l) r.assign ⟨e, h, []⟩ (AfterA ⟨X.c, X.w0, X.F0, X.opn, X.g, none, [], (held L m rd ++ [AV.ptr l 0]) ++ X.gv, (gx0 ++ [.pointer (some ⟨B, 0, none⟩)]) ++ X.gx⟩ r.sz l r.body (AfterB X sz rd all rest k L d l m Q)) := hA
 refine htA (some B) ρ w _ _ ⟨B, N, hB, rfl⟩ (p.more b3) (by rw [hz]; exact her) ⟨[], rfl, rfl⟩ fun x s' a1 w1 ρ1 ⟨hx, r1, hg1, hst, hrunB⟩ g1 g2 g3 g4 => ?_
 subst hx
 obtain ⟨B1, N1, hB1, hB1'⟩ := g1
 cases hB1'
 obtain ⟨fn1, tm1, D1, M1, q1, q2, q3⟩ := ALoop.get g2.hr hB1 hg1
 have g5 := Good.putBlock g2.hr g2.wf hB1 (.loop r1) (.loop { r1 with state := .busy })
  (.loop { state := .busy, pending := pendOf r1.pending, fn := fn1, tmps := tm1, params := r1.params.toArray, assign := r1.assign, body := r1.body, defers := D1 }) hg1 rfl (by simp) rfl
  (by simp only [ABR]; exact ⟨fn1, tm1, D1, M1, World.putObj_heap_same (g2.hr.lt l _ N1 hB1), q2, q3⟩)
 have g6 := g2.good g5 (ArrKeep.put rfl)
 refine ⟨_, run_beginRound q1 hst, ?_⟩
 have htB : Tri ⟨X.c, X.w0, X.F0, X.opn, X.g, none, [], (held L m rd ++ [AV.ptr l 0]) ++ X.gv, (gx0 ++ [.pointer (some ⟨B, 0, none⟩)]) ++ X.gx⟩ r.sz (some l) r.body ⟨s'.e, s'.h.put l (.loop { r1 with state := .busy }), s'.m⟩ (AfterB X sz rd all rest k L d l m Q) := hrunB
 refine htB (some B) ρ1 _ a1 _ ⟨B, N1, hB1, rfl⟩ g6 g3 g4 fun x s2 a2 w2 ρ2 ⟨r2, hg2, hK⟩ k1 k2 k3 k4 => ?_
 obtain ⟨B2, N2, hB2, hB2'⟩ := k1
 cases hB2'
 obtain ⟨fn2, tm2, D2, M2, t1, t2, t3⟩ := ALoop.get k2.hr hB2 hg2
 have hlt := k2.hr.lt l _ N2 hB2
 have g7 := fun (st : LoopState) (pd : Option Ex) => Good.putBlock k2.hr k2.wf hB2 (.loop r2) (.loop { r2 with state := st, pending := pd })
  (.loop { state := st, pending := pendOf pd, fn := fn2, tmps := tm2, params := r2.params.toArray, assign := r2.assign, body := r2.body, defers := D2 }) hg2 rfl (by simp) rfl
  (by simp only [ABR]; exact ⟨fn2, tm2, D2, M2, World.putObj_heap_same hlt, t2, t3⟩)
 have fin := fun (st : LoopState) (pd : Option Ex) (b : Bool) (hops : Ops X sz rd all rest k ((d, .bool b) :: L) (s2.h.put l (.loop { r2 with state := st, pending := pd })) m Q) => show next (a.put o.dst (.bool b)) (w2.putObj B (.loop { state := st, pending := pendOf pd, fn := fn2, tmps := tm2, params := r2.params.toArray, assign := r2.assign, body := r2.body, defers := D2 })) from by
  have k5 := k2.good (g7 st pd) (ArrKeep.put rfl)
  obtain ⟨k6, k7⟩ := k5.less b3.length
  obtain ⟨v1, v2⟩ := VRs.split b1.length k7
  obtain ⟨u1, u2, u3⟩ := b2 ρ2 v1
  obtain ⟨e', he', er'⟩ := known_env (σ := ρ2) (L := L) (tm := a.tmps) (sz := sz) h3.1 u3
  exact h5 (.bool b) ⟨e', _, m⟩ (.bool b) _ ρ2 ⟨e'.set und d (.bool b), by rw [hd]; exact setD_some hs, hops.run _ (he'.set d _)⟩ u1 k6 er' u2 (by simp only [VR])
 cases x with
 | normal => exact ⟨_, _, run_endRound none t1, fin .ready none true hK⟩
 | exit id => exact ⟨_, _, run_endRound (some (.exit id)) t1, fin .done (some (.exit id)) false hK⟩
 | ret => exact ⟨_, _, run_endRound (some .ret) t1, fin .done (some .ret) false hK⟩⟩
end
end Go.Px
end
section
namespace Go.Px
theorem Chg.weak {X : Cx} {sz : Nat} {rd : Option Nat} {L : List (Nat × AV)} {h : Heap} {m : List Nat} (t : Nat) {u v : AV} (hl : lkO L t = some u) (H : ∀ ρ x, VR ρ u x → VR ρ v x) : Chg X sz rd L h ((t, v) :: L) h m := fun ro ρ w e a h1 p h3 he h4 =>
 ⟨ρ, e.set und t v, h1, p, ⟨h3.1, fun s => by
  rw [get_set]
  by_cases hst : s = t
  ·subst hst
   rw [if_pos rfl]
   have := h3.2 s
   rw [he s _ hl] at this
   exact H ρ _ this
  ·rw [if_neg hst]; exact h3.2 s⟩, he.set t v, h4⟩
theorem weak_nil (z : Nat) : ∀ ρ x, VR ρ .nilsl x → VR ρ (.rsl 0 z []) x := fun ρ x q => by
 simp only [VR] at q
 subst q
 simp [VR]
theorem weak_csl (id off z : Nat) : ∀ ρ x, VR ρ (.sl id off 0 (some 0) z) x → VR ρ .csl x := fun ρ x q => by
 simp only [VR] at q ⊢
 obtain ⟨B, N, C, _, rfl, _, h, _⟩ := q
 rw [h 0 rfl]
 exact .inr ⟨_, rfl⟩
theorem weak_csl0 (z : Nat) : ∀ ρ x, VR ρ .csl x → VR ρ (.rsl 0 z []) x := fun ρ x q => by
 simp only [VR] at q
 rcases q with rfl | ⟨a, rfl⟩ <;> simp [VR]
section
variable {X : Cx} {tb : List (Nat × TE)} (E : Env X.c tb) {sz : Nat} {rd : Option Nat} {all : Array Oper} {o : Oper} {rest : List Oper} {k : List It} {L : List (Nat × AV)} {h : Heap} {m : List Nat} {Q : Post}
include E
theorem Ops.dataB {d len z : Nat} {cap : Option Nat} {cs : List AV} {ty : TypeId} (hd : o.dst = some d) (hs : Nat.ble (d + 1) sz = true) (hw : Want all L o true) (hop : Hop X L (bare h.nxt) o (.sl h.nxt 0 len cap z) (newRow (bare h.nxt) ty cs.length .leaf cs)) (hlen : cs.length = len * z) (hdt : datsB cs = true)
  (nx : Ops X sz rd all rest k ((d, .rsl len z cs) :: L) h m Q) : Ops X sz rd all (o :: rest) k L h m Q := ⟨fun e0 he => by
 refine TriOps.cons (hw e0 he) (K := fun s' => RunK X sz rd k Q .normal s') ?_
 intro ro ρ w a next Q' h1 p h3 h4 h5
 refine ⟨fun _ _ => trivial, ?_⟩
 have hopA : opA X.c e0 (bare h.nxt) o.op = some (.v (.sl h.nxt 0 len cap z) ((bare h.nxt).new (.row ⟨ty, cs.length, .leaf, cs, none⟩))) := hop e0 he
 rw [show (wideR ro).round = ro from rfl, Oper.semAt_eq ro a.eval o (opA_defer hopA)]
 have hbr : HR ρ (bare h.nxt) w := bare_hr h.nxt p.hr.lt p.hr.fz
 obtain ⟨nx', w', ρ1, q1, q2, q3⟩ := opA_ok E.k hbr (bare_wf _) (fun i a b => p.fr.1 i a) h3 hopA
 have hblk : ∀ B, B < w.heap.size → w'.heap[B]? = w.heap[B]? := fun B hB => q2.frame B hB (fun i N _ => bare_no _ i)
 have hFo : ∀ B, B < w.heap.size → ρ1.F B = ρ.F B := fun B hB => q2.fold B hB (fun i N _ => bare_no _ i)
 have hgetn : ((bare h.nxt).new (.row ⟨ty, cs.length, .leaf, cs, none⟩)).get h.nxt = .row ⟨ty, cs.length, .leaf, cs, none⟩ := by
  have := Heap.get_new (bare h.nxt) h.nxt (.row ⟨ty, cs.length, .leaf, cs, none⟩)
  rw [this]; exact if_pos rfl
 have hokn : ((bare h.nxt).new (.row ⟨ty, cs.length, .leaf, cs, none⟩)).ok h.nxt := by
  unfold Heap.ok; rw [hgetn]; simp only []; rw [Heap.row_of hgetn]; rfl
 rcases q3 with ⟨S, rfl, q3⟩ | ⟨_, q3⟩
 ·simp only [VR] at q3
  obtain ⟨B, N, C, e1, rfl, hC, _, _⟩ := q3
  have hro := q2.hr.ok h.nxt B N e1 hokn
  rw [hgetn] at hro
  have hro : RowOk ρ1 ⟨ty, cs.length, .leaf, cs, none⟩ B N w' := hro
  obtain ⟨L0, l1, l2, l3⟩ := RowOk.reads hro cs.length 0 (by simp)
  rw [read_whole ty cs cs.length rfl] at l1
  have hFB : ρ1.F B = [] := q2.hr.F_row e1 hokn (fun r => by rw [hgetn]; exact fun q => by cases q)
  have hBge : w.heap.size ≤ B := by
   rcases q2.newb h.nxt B N e1 (p.fr.1 _ (Nat.le_refl _)) with r | ⟨j, M, _, r⟩
   ·exact r
   ·exact absurd r (bare_no _ j)
  have g1 : ∀ b, b ≠ B → (fun b => if b = B then L0 else ρ1.F b) b = ρ1.F b := fun b q => if_neg q
  have g2 : (fun b => if b = B then L0 else ρ1.F b) B = L0 := if_pos rfl
  have f1 : ∀ (b j : Nat) (x : Value), (ρ1.F b)[j]? = some x → ((fun b => if b = B then L0 else ρ1.F b) b)[j]? = some x := fun b j x q => by
   by_cases hb : b = B
   ·subst hb; rw [hFB] at q; simp at q
   ·rw [g1 b hb]; exact q
  have f0 : ∀ (b j : Nat) (x : Value), (ρ.F b)[j]? = some x → ((fun b => if b = B then L0 else ρ1.F b) b)[j]? = some x := fun b j x q => f1 b j x (q2.sub.F b j x q)
  have f3 : FzW (fun b => if b = B then L0 else ρ1.F b) w' := fun b j x q => by
   by_cases hb : b = B
   ·subst hb; rw [g2] at q
    have := l3 j x q; rwa [Nat.zero_add] at this
   ·rw [g1 b hb] at q; exact q2.hr.fz b j x q
  have hsub : Sub ρ ⟨ρ.m, fun b => if b = B then L0 else ρ1.F b, ρ.V⟩ := ⟨fun _ _ e => e, f0, fun _ _ _ e => e⟩
  have hpi := p.frz ⟨q2.same, hblk⟩ f0 (fun b hb => (g1 b (by omega)).trans (hFo b hb)) f3
  rw [q1]
  refine h5 (.rsl len z cs) ⟨e0, h, m⟩ _ w' _ ⟨e0.set und d (.rsl len z cs), by rw [hd]; exact setD_some hs, nx.run _ (he.set d _)⟩ (h1.mono hsub) hpi (h3.mono hsub) (h4.mono hsub) ?_
  simp only [VR]
  refine ⟨hlen, .inr ⟨B, 0, C, L0, rfl, hC, ?_, fun j x q => ?_⟩⟩
  ·exact VRs.mono (ρ := ρ1.d) (σ := (⟨ρ.m, fun b => if b = B then L0 else ρ1.F b, ρ.V⟩ : Map).d) ⟨(fun _ _ e => by cases e), f1, (fun _ _ _ e => by cases e)⟩ cs (dats_ok cs hdt l1)
  ·show ((fun b => if b = B then L0 else ρ1.F b) B)[0 + j]? = some x
   rw [g2, Nat.zero_add]; exact q
 ·simp only [VR] at q3
  obtain ⟨B, N, C, e1, e2, _⟩ := q3
  cases e2⟩
omit E in
theorem dats_flat {α : Type} {enc : α → List AV} (he : ∀ a, datsB (enc a) = true) : ∀ l : List α, datsB (l.flatMap enc) = true
 | [] => rfl
 | a :: l => by
  have happ : ∀ x y : List AV, datsB x = true → datsB y = true → datsB (x ++ y) = true := by
   intro x y hx hy
   induction x with
   | nil => exact hy
   | cons v x ih =>
    have hx' : (match datB v with | true => datsB x | false => false) = true := hx
    show (match datB v with | true => datsB (x ++ y) | false => false) = true
    split at hx'
    ·exact ih hx'
    ·cases hx'
  rw [List.flatMap_cons]
  exact happ _ _ (he a) (dats_flat he l)
def encU (c : UInt8) : List AV := [.int .u8 (c.toNat : Int)]
omit E in
theorem TOk.it {c : Ctx} {t : Nat} {e : TE} {kk : IntKind} (h : TOk c t e) (k : e.k = .int kk) : c.under t = some (.int kk) := by
 obtain ⟨d, h1, h2⟩ := h.kd
 rw [k] at h2
 cases d <;> simp only [tkOf] at h2 <;> first | (cases h2; done) | (cases h2; exact h1)
theorem Ops.clone {d : Nat} {cl : Call} {x y : Operand} {t t1 el q z : Nat} {xv : AV} {cs : List AV} {e e1 ee : TE} (hd : o.dst = some d) (hs : Nat.ble (d + 1) sz = true) (hw : Want all L o true) (ho : o.op = .call cl) (hc : cl.callee = .builtin .append) (ha : cl.args.toList = [x, y])
  (hts0 : nth1 cl.argTypes.toList 0 = some t) (hts1 : nth1 cl.argTypes.toList 1 = some t1) (hx : evL L x = some xv) (hxv : (match xv with | .csl => true | .nilsl => true | _ => false) = true) (hy : evL L y = some (.rsl q z cs)) (ht : lkT tb t = some e) (hk : e.k = .slice el) (hel : lkT tb el = some ee) (hz : Nat.beq ee.s z = true) (hz0 : Nat.beq z 0 = false) (hb : Nat.ble ee.b 1000 = true)
  (ht1 : lkT tb t1 = some e1) (hk1 : (match e1.k with | .slice _ => true | .str => true | _ => false) = true) (hzz : (match ee.z with | .bad => false | v => Nat.beq v.cells.length ee.s) = true) (hdt : datsB cs = true) (hlen : cs.length = q * z) (hq : q ≠ 0) (hsm : q ≤ 1000000)
  (nx : Ops X sz rd all rest k ((d, .rsl q z cs) :: L) h m Q) : Ops X sz rd all (o :: rest) k L h m Q :=
 Ops.dataB E hd hs hw (len := q) (z := z) (cap := none) (cs := cs) (ty := el) (fun e' he => by
  have hz := beqT hz
  obtain ⟨ie, i1, i2, i3⟩ := (E.t el ee hel).si
  have hnb : ee.z ≠ .bad := fun q => by rw [q] at hzz; cases hzz
  have hzl : ee.z.cells.length = ee.s := by
   cases hv : ee.z <;> rw [hv] at hzz <;> first | (cases hzz; done) | exact beqT hzz
  have hzc : X.c.zcells el = some ee.z.cells := by
   unfold Ctx.zcells
   rw [(E.t el ee hel).z]
   cases hv : ee.z <;> first | exact absurd hv hnb | rfl
  have hu := (E.t t e ht).sl hk
  obtain ⟨d1, u1, u2⟩ := (E.t t1 e1 ht1).kd
  have hu1 := u1
  have hni : ∀ kk, d1 ≠ .int kk := fun kk qq => by
   subst qq
   rw [← u2] at hk1
   cases hk1
  rw [nth1_eq] at hts0 hts1
  obtain ⟨q', rfl⟩ : ∃ q', q = q' + 1 := ⟨q - 1, by omega⟩
  have happ : oAppend X.c (bare h.nxt) t xv (.rsl (q' + 1) z cs) = some (.sl h.nxt 0 (q' + 1) none z, newRow (bare h.nxt) el cs.length .leaf cs) := by
   have hbz : Nat.beq ie.size ee.z.cells.length = true := by rw [i2, hzl]; exact Nat.beq_refl _
   have hb0 : Nat.beq ie.size 0 = false := by rw [i2, hz]; exact hz0
   have hbb : Nat.ble ie.bytes 1000 = true := by rw [i3]; exact hb
   have hcz : Nat.beq ie.size z = true := by rw [i2, hz]; exact Nat.beq_refl _
   have hsc : srcCells (bare h.nxt) (.rsl (q' + 1) z cs) ie.size = some cs := by
    unfold srcCells
    simp only [hcz]
   have hgn : growNew (bare h.nxt) el ie.size (q' + 1) cs = some (.sl h.nxt 0 (q' + 1) none z, newRow (bare h.nxt) el cs.length .leaf cs) := by
    unfold growNew
    rw [Nat.ble_eq_true_of_le hsm]
    simp only []
    rw [i2, hz, hlen]
    rfl
   unfold oAppend
   simp only [hu, i1, hzc, hbz, hb0, hbb, srcLen, hsc]
   unfold appCells
   cases xv <;> first | (cases hxv; done) | exact hgn
  rw [ho]; simp only [opA, oCall, hc]
  rw [ha]
  simp only [List.map_cons, List.map_nil, he.ev hx, he.ev hy, oBuiltin, nth_eq, hts0, hts1, hu1]
  cases d1 <;> first | exact absurd rfl (hni _) | (simp only [happ])) hlen hdt nx
end
end Go.Px
end
section
namespace Go.Px
theorem PI.same {X : Cx} {ρ : Map} {h h' : Heap} {w : World} (p : PI X ρ h w) (hg : ∀ i, h'.get i = h.get i) (hn : h'.nxt = h.nxt) (ht : ∀ q, h'.tip q = h.tip q) : PI X ρ h' w := by
 have ho : ∀ j, h'.ok j ↔ h.ok j := fun j => Heap.ok_same (hg j) (fun _ q _ _ => by rw [ht q])
 refine ⟨⟨p.hr.lt, fun i B N e q => by rw [hg i]; exact p.hr.ok i B N e ((ho i).1 q), fun i j B N M hij e1 e2 k1 k2 => ?_, fun i r q => p.hr.gl i r (by rw [← hg i]; exact q), p.hr.fz, fun i B N e q => by rw [hg i]; exact p.hr.sep i B N e ((ho i).1 q), fun i t z n l q => p.hr.av i t z n l (by rw [← hg i]; exact q)⟩,
  ⟨fun i hi => by rw [hg i]; exact p.wf.fresh i (by omega), fun i r q a b => by rw [hn]; exact p.wf.root i r q (by rw [← hg i]; exact a) b, fun i r q t a b c => by rw [hg t]; exact p.wf.tip i r q t (by rw [← hg i]; exact a) b (by rw [← ht q]; exact c), fun q hq => by rw [ht q]; exact p.wf.tipr q (by omega)⟩,
  ⟨fun i hi => p.fr.1 i (by omega), fun i r q => by rw [hg i]; exact p.fr.2 i r q⟩, fun i hi n => p.vf i (by omega) n, fun i t z n l q => p.vu i t z n l (by rw [← hg i]; exact q), p.ext, p.mine, p.sub, p.old, p.keep, p.gh.go (fun t z n l q => ⟨_, _, _, by rw [← hg 0]; exact q⟩) (Same.refl w) (fun _ _ _ => rfl) (fun i B N e q => .inr ⟨i, N, e, (ho i).1 q⟩) (fun _ _ _ => rfl) (fun B N e => .inl ⟨N, e⟩) (fun _ _ => rfl) (fun _ _ _ e => e) (fun _ e => e)⟩
 obtain ⟨r, s, q, a, b, c⟩ := p.hr.inj i j B N M hij e1 e2 ((ho i).1 k1) ((ho j).1 k2)
 exact ⟨r, s, q, by rw [hg i]; exact a, by rw [hg j]; exact b, c⟩
section
variable {X : Cx} {tb : List (Nat × TE)} (E : Env X.c tb) {sz : Nat} {rd : Option Nat} {all : Array Oper} {o : Oper} {rest : List Oper} {k : List It} {L : List (Nat × AV)} {h : Heap} {m : List Nat} {Q : Post}
include E
theorem Ops.append0 {d : Nat} {cl : Call} {x y : Operand} {t t1 el id n z q : Nat} {l cs : List AV} {e e1 ee : TE} (hd : o.dst = some d) (hs : Nat.ble (d + 1) sz = true) (hw : Want all L o true) (ho : o.op = .call cl) (hc : cl.callee = .builtin .append) (ha : cl.args.toList = [x, y])
  (hts0 : nth1 cl.argTypes.toList 0 = some t) (hts1 : nth1 cl.argTypes.toList 1 = some t1) (hx : evL L x = some (.own id n z)) (hy : evL L y = some (.rsl q z cs)) (ht : lkT tb t = some e) (hk : e.k = .slice el) (hel : lkT tb el = some ee) (hz : Nat.beq ee.s z = true) 
  (ht1 : lkT tb t1 = some e1) (hk1 : (match e1.k with | .slice _ => true | .str => true | _ => false) = true) (hg : h.get id = .arr el z n l)
  (hq : q = 0) (nx : Ops X sz rd all rest k ((d, .own id (n + q) z) :: L) (h.put id (.arr el z (n + q) (l ++ cs))) m Q) : Ops X sz rd all (o :: rest) k L h m Q := ⟨fun e0 he => by
 refine TriOps.cons (hw e0 he) (K := fun s' => RunK X sz rd k Q .normal s') ?_
 intro ro ρ w a next Q' h1 p h3 h4 h5
 refine ⟨fun _ _ => trivial, ?_⟩
 rw [show (wideR ro).round = ro from rfl, Oper.semAt_eq ro a.eval o (by rw [ho]; intro d q; cases q)]
 have hz := beqT hz
 have hS : VR ρ (.own id n z) (a.eval x) := by rw [← he.ev hx]; exact ev_ok h3 x
 have hY : VR ρ (.rsl q z cs) (a.eval y) := by rw [← he.ev hy]; exact ev_ok h3 y
 subst hq
 have hcs : cs = [] := by
  simp only [VR] at hY
  exact List.length_eq_zero_iff.1 (by rw [hY.1]; omega)
 subst hcs
 obtain ⟨ie, i1, i2, i3⟩ := (E.t el ee hel).si
 have hsz : ie.size = z := i2.trans hz
 obtain ⟨s1, news, s2, s3, s4⟩ := src_ok (P := X.c.P) (h := h) (z := z) (m := 0) (cs := []) p.hr hY rfl (by simp [srcCells])
 have hnn : news = [] := List.length_eq_zero_iff.1 (by rw [s3]; omega)
 subst hnn
 have hu := under_eq E.k ((E.t t e ht).sl hk)
 obtain ⟨d1, u1, u2⟩ := (E.t t1 e1 ht1).kd
 have hu1 := under_eq E.k u1
 have hni : ∀ kk, d1 ≠ .int kk := fun kk qq => by
  subst qq
  rw [← u2] at hk1
  cases hk1
 rw [nth1_eq] at hts0 hts1
 have hS' := hS
 simp only [VR] at hS'
 have key : (Builtin.append_ cl.argTypes o.type #[a.eval x, a.eval y]).run X.c.P w = .ok (a.eval x) w := by
  have hf : (Builtin.firstCells ie.size 0 (a.eval y)).run X.c.P w = .ok ([] : List Value).toArray w := by
   have := s4 w rfl 0 (Nat.le_refl _)
   rw [hsz]; simpa using this
  obtain ⟨hv, ⟨hn0, a0, he0⟩ | ⟨B, C, he0, hC⟩⟩ := hS'
  ·rw [he0]
   have := append_room (P := X.c.P) w cl.argTypes o.type t t1 el d1 ie (by simpa using hts0) (by simpa using hts1) hu1 hni hu (E.k.tys _ _ i1) a0 0 0 0 (a.eval y) [] [] (s1 w) hf (Nat.le_refl _) (w' := w) (by cases a0 <;> simp [storeCells])
   simpa using this
  ·rw [he0]
   have := append_room (P := X.c.P) w cl.argTypes o.type t t1 el d1 ie (by simpa using hts0) (by simpa using hts1) hu1 hni hu (E.k.tys _ _ i1) (some ⟨B, 0, none⟩) n C 0 (a.eval y) [] [] (s1 w) hf (by omega) (w' := w) (by simp [storeCells])
   simpa using this
 have hrun : (execOp a.eval o).run X.c.P w = .ok (.value (a.eval x)) w := by
  obtain ⟨CS, hCS⟩ : ∃ CS, (execOp a.eval o).run X.c.P w = (builtin .append cl.argTypes o.type CS (cl.args.map a.eval)).run X.c.P w :=
   ⟨_, by simp only [execOp, ho, resolve, hc, Sem.run_bind, Sem.run_pure, Result.andThen_ok, invoke]; rfl⟩
  have hargs : cl.args.map a.eval = #[a.eval x, a.eval y] := by apply Array.ext'; simp [ha]
  rw [hCS, hargs]
  simp [builtin, key]
 rw [hrun]
 rw [List.append_nil, Nat.add_zero] at nx
 have hpi : PI X ρ (h.put id (.arr el z n l)) w := p.same (fun i => by
  rw [Heap.get_put]
  by_cases hi : i = id
  ·subst hi; rw [if_pos rfl, hg]
  ·rw [if_neg hi]) rfl (fun q => rfl)
 exact h5 (.own id n z) ⟨e0, h.put id (.arr el z n l), m⟩ (a.eval x) w ρ ⟨e0.set und d (.own id n z), by rw [hd]; exact setD_some hs, nx.run _ (he.set d _)⟩ h1 hpi h3 h4 hS⟩
theorem Ops.appendE {d : Nat} {cl : Call} {x y : Operand} {t t1 el id n z q : Nat} {l cs : List AV} {e e1 ee : TE} (hd : o.dst = some d) (hs : Nat.ble (d + 1) sz = true) (hw : Want all L o true) (ho : o.op = .call cl) (hc : cl.callee = .builtin .append) (ha : cl.args.toList = [x, y])
  (hts0 : nth1 cl.argTypes.toList 0 = some t) (hts1 : nth1 cl.argTypes.toList 1 = some t1) (hx : evL L x = some (.own id n z)) (hy : evL L y = some (.rsl q z cs)) (ht : lkT tb t = some e) (hk : e.k = .slice el) (hel : lkT tb el = some ee) (hz : Nat.beq ee.s z = true) (hz0 : Nat.beq z 0 = false) (hb : Nat.ble ee.b 1000 = true)
  (ht1 : lkT tb t1 = some e1) (hk1 : (match e1.k with | .slice _ => true | .str => true | _ => false) = true) (hg : h.get id = .arr el z n l) (hi : HInd id h) (hL : indL id L = true) (hm : (m.all fun i => !Nat.beq i id) = true) (hrd : rdNot id rd = true) (hG : indsB id X.gv = true)
  (hzz : (match ee.z with | .bad => false | v => Nat.beq v.cells.length ee.s) = true) (hones : ones cs = true) (hsm : n + q ≤ 1000000) (nx : Ops X sz rd all rest k ((d, .own id (n + q) z) :: L) (h.put id (.arr el z (n + q) (l ++ cs))) m Q) : Ops X sz rd all (o :: rest) k L h m Q := by
 by_cases hq : q = 0
 ·exact Ops.append0 E hd hs hw ho hc ha hts0 hts1 hx hy ht hk hel hz ht1 hk1 hg hq nx
 ·exact Ops.append E hd hs hw ho hc ha hts0 hts1 hx hy ht hk hel hz hz0 hb ht1 hk1 hg hi hL hm hrd hG hzz hones hq hsm nx
end
/-! ## places in one's own arrays -/
theorem flat_get {α : Type} {z : Nat} {enc : α → List AV} (he : ∀ a, (enc a).length = z) (d : α) {l : List α} {i f : Nat} (hi : i < l.length) (hf : f < z) : (l.flatMap enc)[i * z + f]? = (enc (l.getD i d))[f]? := by
 rw [← flat_at he d l i hi, List.getElem?_take, if_pos hf, List.getElem?_drop]
section
variable {X : Cx} {tb : List (Nat × TE)} (E : Env X.c tb) {L : List (Nat × AV)} {h : Heap} {o : Oper}
include E
theorem Hop.ldF {α : Type} [Inhabited α] {t : Nat} {x : Operand} {id n i f off ty z : Nat} {enc : α → List AV} {l : List α} {v : AV} {e : TE} (ho : o.op = .load t x) (hx : evL L x = some (.optr id n off)) (hoff : off = i * z + f) (ht : lkT tb t = some e) (ha : e.k.isAgg = false) (hg : h.get id = .arr ty z n (l.flatMap enc)) (henc : ∀ a, (enc a).length = z) (hf : Nat.ble (f + 1) z = true) (hv : nth1 (enc (l.getD i default)) f = some v) (hi : i < l.length) : Hop X L h o v h :=
 Hop.ldO E ho hx ht ha hg (by rw [hoff, flat_get henc default hi (bleT hf), ← nth1_eq]; exact hv)
end
/-! ## halves -/
section
variable {X : Cx} {tb : List (Nat × TE)} (E : Env X.c tb) {L : List (Nat × AV)} {h : Heap} {o : Oper}
theorem Hop.quo {x y : Operand} {t u : Nat} {a b : Int} (ho : o.op = .binOp .quo t x y u) (hx : evL L x = some (.int .i64 a)) (hy : evL L y = some (.int .i64 b)) (hb : ieq b 0 = false) (hr : 0 ≤ a ∧ a < 9223372036854775808 ∧ 0 ≤ a / b ∧ a / b < 9223372036854775808) : Hop X L h o (.int .i64 (a / b)) h :=
 opA_bin ho hx hy ⟨by simp, by simp⟩ (by simp only [intOp, hb]; rw [Int.tdiv_eq_ediv_of_nonneg hr.1, wr_i64 ⟨by omega, hr.2.2.2⟩])
theorem Hop.rem {x y : Operand} {t u : Nat} {a b : Int} (ho : o.op = .binOp .rem t x y u) (hx : evL L x = some (.int .i64 a)) (hy : evL L y = some (.int .i64 b)) (hb : ieq b 0 = false) (hr : 0 ≤ a) : Hop X L h o (.int .i64 (a % b)) h :=
 opA_bin ho hx hy ⟨by simp, by simp⟩ (by simp only [intOp, hb]; rw [Int.tmod_eq_emod_of_nonneg hr])
include E in
theorem Hop.conv {s t : Nat} {x : Operand} {k1 k2 : IntKind} {a : Int} {es e : TE} (ho : o.op = .convert s t x) (hx : evL L x = some (.int k1 a)) (hs : lkT tb s = some es) (ht : lkT tb t = some e) (hk : e.k = .int k2) (hr : wr k2 a = a) : Hop X L h o (.int k2 a) h := fun e' he => by
 obtain ⟨d, h1, _⟩ := (E.t s es hs).kd
 have h2 := (E.t t e ht).it hk
 rw [ho]; simp only [opA]; rw [he.ev hx]
 simp only [oConvert, h1, h2, hr, valH]
end
section
variable {X : Cx} {tb : List (Nat × TE)} (E : Env X.c tb) {sz : Nat} {rd : Option Nat} {all : Array Oper} {o : Oper} {rest : List Oper} {k : List It} {L : List (Nat × AV)} {h : Heap} {m : List Nat} {Q : Post}
include E
end
end Go.Px
end
section
namespace Go.Px
noncomputable def newAt (n : Nat) (h : Heap) (b : AB) : Heap := ⟨n + 1, h.blk.set .none n b, h.tips, n :: h.log⟩
theorem new_at {n : Nat} {h : Heap} (hn : h.nxt = n) (b : AB) : h.new b = newAt n h b := by subst hn; rfl
noncomputable def rowAt (n : Nat) (h : Heap) (t : TypeId) (k : Nat) (cs : List AV) : Heap := newAt n h (.row ⟨t, k, .leaf, cs, none⟩)
theorem row_at {n : Nat} {h : Heap} (hn : h.nxt = n) (t : TypeId) (k : Nat) (cs : List AV) : newRow h t k .leaf cs = rowAt n h t k cs := new_at hn _
def boxC (v : AV) : Option (List AV) := match v with | .agg l => some l | .bad => none | v => some [v]
section
variable {X : Cx} {tb : List (Nat × TE)} (E : Env X.c tb) {sz : Nat} {rd : Option Nat} {all : Array Oper} {o : Oper} {rest : List Oper} {k : List It} {L : List (Nat × AV)} {h : Heap} {m : List Nat} {Q : Post}
theorem oBox_C {h : Heap} {t : Nat} {v : AV} {cs : List AV} (hb : boxC v = some cs) : oBox h t v = some (.ptr h.nxt 0, newRow h t cs.length .leaf cs) := by
 cases v <;> first | (cases hb; rfl) | cases hb
theorem Hop.boxC {t : Nat} {x : Operand} {v : AV} {cs : List AV} (ho : o.op = .box t x) (hx : evL L x = some v) (hb : Px.boxC v = some cs) : Hop X L h o (.ptr h.nxt 0) (newRow h t cs.length .leaf cs) := Hop.box ho hx (oBox_C hb)
include E
/-! ## numbers written out -/
theorem Ops.rowAt (n : Nat) {d ty N : Nat} {cs : List AV} (hd : o.dst = some d) (hs : Nat.ble (d + 1) sz = true) (hw : Want all L o true) (hn : h.nxt = n) (hop : Hop X L h o (.ptr h.nxt 0) (newRow h ty N .leaf cs)) (nx : Ops X sz rd all rest k ((d, .ptr n 0) :: L) (Px.rowAt n h ty N cs) m Q) : Ops X sz rd all (o :: rest) k L h m Q := by
 rw [hn, row_at hn] at hop
 exact Ops.mem E hd hs hw hop (by rw [← row_at hn]; exact ArrKeep.new rfl) nx
end
section
variable {X : Cx} {sz : Nat} {rd : Option Nat} {k : List It} {L : List (Nat × AV)} {h : Heap} {m : List Nat} {Q : Post}
theorem Go.condPt {t : Nat} {c d : Code} {p : Prop} (hb : lkO L t = some (.bool (bd p))) (g1 : p → Go X sz rd (.code c :: k) ((t, .bool true) :: L) h m Q) (g2 : ¬ p → Go X sz rd (.code d :: k) ((t, .bool false) :: L) h m Q) : Go X sz rd (.code (.cond (.tmp t) c d) :: k) L h m Q := ⟨fun e he => by
 have hk : ∀ {b : Bool}, bd p = b → Has e ((t, .bool b) :: L) := fun {b} hb' s u q => by
  unfold lkO at q
  split at q
  ·rename_i ht; cases q; have ht := beqT ht; subst ht; rw [← hb']; exact he s _ hb
  ·exact he s u q
 have he' : evL L (.tmp t) = some (.bool (bd p)) := hb
 exact Tri.cond (he.ev he') (fun q => (g1 (bd_iff.1 q)).run e (hk q)) (fun q => (g2 (bd_not.1 q)).run e (hk q))⟩
theorem Go.condNt {t : Nat} {c d : Code} {p : Prop} (hb : lkO L t = some (.bool (!bd p))) (g1 : ¬ p → Go X sz rd (.code c :: k) ((t, .bool true) :: L) h m Q) (g2 : p → Go X sz rd (.code d :: k) ((t, .bool false) :: L) h m Q) : Go X sz rd (.code (.cond (.tmp t) c d) :: k) L h m Q := by
 have e : (!bd p) = bd (¬ p) := by by_cases h : p <;> simp [bd, h]
 rw [e] at hb
 exact Go.condPt hb g1 fun q => g2 (Classical.not_not.1 q)
end
/-! ## what is left at the end -/
end Go.Px
end
section
namespace Go.Px
section
variable {X : Cx} {sz : Nat} {rd : Option Nat} {all : Array Oper} {rest : List Oper} {k : List It} {L : List (Nat × AV)} {h : Heap} {m : List Nat} {Q : Post}
theorem Go.condTt {t : Nat} {c d : Code} {p : Prop} (hb : lkO L t = some (.bool (bd p))) (hp : p) (g1 : Go X sz rd (.code c :: k) ((t, .bool true) :: L) h m Q) : Go X sz rd (.code (.cond (.tmp t) c d) :: k) L h m Q := Go.condPt hb (fun _ => g1) fun q => absurd hp q
theorem Go.condFt {t : Nat} {c d : Code} {p : Prop} (hb : lkO L t = some (.bool (bd p))) (hp : ¬ p) (g1 : Go X sz rd (.code d :: k) ((t, .bool false) :: L) h m Q) : Go X sz rd (.code (.cond (.tmp t) c d) :: k) L h m Q := Go.condPt hb (fun q => absurd q hp) fun _ => g1
end
end Go.Px
end
section
namespace Go.Px
section
variable {X : Cx} {tb : List (Nat × TE)} {sz : Nat} {rd : Option Nat} {all : Array Oper} {o : Oper} {rest : List Oper} {k : List It} {L : List (Nat × AV)} {h : Heap} {m : List Nat} {Q : Post}
theorem Ops.frzMv (E : Env X.c tb) (d : Nat) {v : AV} {id ty z n : Nat} {l : List AV} (e0 : AV.rsl n z l = v) (hd : o.dst = some d) (hs : Nat.ble (d + 1) sz = true) (hw : Want all L o true) (hop : Hop X L h o (.own id n z) h) (hg0 : h.get id = .arr ty z n l) (hi : HInd id h) (hL : indL id L = true)
  (hm : (m.all fun i => !Nat.beq i id) = true) (hrd : rdNot id rd = true) (hG : indsB id X.gv = true) (nx : Ops X sz rd all rest k ((d, v) :: (d, .own id n z) :: L) (h.put id .none) m Q) : Ops X sz rd all (o :: rest) k L h m Q := by
 subst e0
 refine Ops.val E hd hs hw hop (Ops.change (Chg.frz d (by unfold lkO; rw [Nat.beq_refl]) hg0 hi (by simp only [indL, indB]; exact hL) hm (fun q => ?_) hG) nx)
 subst q
 simp [rdNot, Nat.beq_refl] at hrd
end
end Go.Px
end
section
namespace Go.Px
section
variable {X : Cx} {tb : List (Nat × TE)} {sz : Nat} {rd : Option Nat} {all : Array Oper} {o : Oper} {rest : List Oper} {k : List It} {L : List (Nat × AV)} {h : Heap} {m : List Nat} {Q : Post}
theorem PI.cellV {ρ : Map} {w : World} {id : Nat} {r r' : Row} (p : PI X ρ h w) (hg0 : h.get id = .row r) (h1 : r'.t = r.t) (h2 : r'.n = r.n) (h3 : r.root = none) (h4 : r'.root = none) (H : ∀ B N, ρ id = some (B, N) → ∀ j v, j < r.n → w.cell? ⟨B, j, none⟩ = some v → VR ρ (r.get j) v → VR ρ (r'.get j) v) : PI X ρ (h.put id (.row r')) w := by
 have hg : ∀ j, j ≠ id → (h.put id (.row r')).get j = h.get j := fun j q => by rw [Heap.get_put, if_neg q]
 have hn : (h.put id (.row r')).get id = .row r' := by rw [Heap.get_put, if_pos rfl]
 have hokn : h.ok id := by unfold Heap.ok; rw [hg0]; simp only []; rw [Heap.row_of hg0, h3]; rfl
 have ho : ∀ j, (h.put id (.row r')).ok j → h.ok j := fun j q => by
  by_cases hj : j = id
  ·subst hj; exact hokn
  ·exact (Heap.ok_same (hg j hj) (fun _ _ _ _ => rfl)).1 q
 have hk1 : ∀ j, ¬ Kin h id j := fun j hk => by
  obtain ⟨a, b, q, a1, a2, a3, a4⟩ := hk
  rw [hg0] at a1; cases a1; rw [h3] at a3; cases a3
 have hk2 : ∀ j, ¬ Kin h j id := fun j hk => by
  obtain ⟨a, b, q, a1, a2, a3, a4⟩ := hk
  rw [hg0] at a2; cases a2; rw [h3] at a4; cases a4
 refine ⟨⟨p.hr.lt, fun i B N e q => ?_, fun i j B N M hij e1 e2 k1 k2 => ?_, fun i s q => ?_, p.hr.fz, fun i B N e q => ?_, fun i t z n l q => ?_⟩,
  ⟨fun i hi => ?_, fun i s q a b => ?_, fun i s q t a b c => ?_, fun q hq => p.wf.tipr q hq⟩, ⟨fun i hi => p.fr.1 i hi, fun i s q => ?_⟩, fun i hi n => p.vf i hi n, fun i t z n l q => ?_, p.ext, p.mine, p.sub, p.old, p.keep, p.gh.go (fun t z n l q => ?_) (Same.refl w) (fun _ _ _ => rfl) (fun i B N e q => .inr ⟨i, N, e, ho i q⟩) (fun _ _ _ => rfl) (fun B N e => .inl ⟨N, e⟩) (fun _ _ => rfl) (fun _ _ _ e => e) (fun _ e => e)⟩
 ·by_cases hi : i = id
  ·subst hi
   rw [hn]
   have := p.hr.ok i B N e hokn
   rw [hg0] at this
   have this : RowOk ρ r B N w := this
   obtain ⟨q1, q2, q3, q4⟩ := this
   refine ⟨by rw [h1]; exact q1, by rw [h2]; exact q2, q3, fun j hj => ?_⟩
   rw [h2] at hj
   obtain ⟨v, v1, v2⟩ := q4 j hj
   exact ⟨v, v1, H B N e j v hj v1 v2⟩
  ·rw [hg i hi]; exact p.hr.ok i B N e (ho i q)
 ·have kk := p.hr.inj i j B N M hij e1 e2 (ho i k1) (ho j k2)
  by_cases hi : i = id
  ·subst hi; exact absurd kk (hk1 j)
  ·by_cases hj : j = id
   ·subst hj; exact absurd kk (hk2 i)
   ·obtain ⟨r, s, q, a, b, c⟩ := kk
    exact ⟨r, s, q, by rw [hg i hi]; exact a, by rw [hg j hj]; exact b, c⟩
 ·by_cases hi : i = id
  ·subst hi; rw [hn] at q; cases q
  ·rw [hg i hi] at q; exact p.hr.gl i s q
 ·by_cases hi : i = id
  ·subst hi
   rcases p.hr.sep i B N e hokn with a | ⟨s, a⟩
   ·exact .inl a
   ·rw [hg0] at a; cases a
  ·rw [hg i hi]; exact p.hr.sep i B N e (ho i q)
 ·by_cases hi : i = id
  ·subst hi; rw [hn] at q; cases q
  ·rw [hg i hi] at q; exact p.hr.av i t z n l q
 ·by_cases hi' : i = id
  ·subst hi'
   have : h.get i = .none := p.wf.fresh i hi
   rw [hg0] at this; cases this
  ·rw [hg i hi']; exact p.wf.fresh i hi
 ·by_cases hi : i = id
  ·subst hi; rw [hn] at a; cases a; rw [h4] at b; cases b
  ·rw [hg i hi] at a; exact p.wf.root i s q a b
 ·by_cases hi : i = id
  ·subst hi; rw [hn] at a; cases a; rw [h4] at b; cases b
  ·rw [hg i hi] at a
   obtain ⟨u, u1, u2, u3⟩ := p.wf.tip i s q t a b c
   by_cases ht : t = id
   ·subst ht; rw [hg0] at u1; cases u1; rw [h3] at u2; cases u2
   ·exact ⟨u, by rw [hg t ht]; exact u1, u2, u3⟩
 ·by_cases hi : i = id
  ·subst hi
   have := p.fr.2 i s q
   rw [hg0] at this; cases this
  ·rw [hg i hi]; exact p.fr.2 i s q
 ·by_cases hi : i = id
  ·subst hi; rw [hn] at q; cases q
  ·rw [hg i hi] at q; exact p.vu i t z n l q
 ·by_cases hi : 0 = id
  ·subst hi; rw [hn] at q; cases q
  ·rw [hg 0 hi] at q; exact ⟨_, _, _, q⟩
theorem PI.cell {ρ : Map} {w : World} {id : Nat} {r r' : Row} (p : PI X ρ h w) (hg0 : h.get id = .row r) (h1 : r'.t = r.t) (h2 : r'.n = r.n) (h3 : r.root = none) (h4 : r'.root = none) (H : ∀ j v, j < r.n → VR ρ (r.get j) v → VR ρ (r'.get j) v) : PI X ρ (h.put id (.row r')) w := p.cellV hg0 h1 h2 h3 h4 fun _ _ _ j v hj _ q => H j v hj q
theorem row1 (t : TypeId) (v : AV) : Row.get ⟨t, 1, .leaf, [v], none⟩ 0 = v := by
 unfold Row.get
 rw [show (T.leaf : T (Option AV)).get none 0 = none from get_leaf none 0]
 simp only [Nat.zero_mod]
 rfl
theorem Chg.tokCell (n0 id : Nat) (ty z : Nat) {t : TypeId} {u : AV} (hn0 : h.nxt = n0) (hu : noRoom u = true) (hg : h.get id = .row ⟨t, 1, .leaf, [u], none⟩) (hz : X.g = none ∨ Nat.ble 1 n0 = true := by first | exact .inl rfl | exact .inr rfl) : Chg X sz rd L h L ((newAt n0 h (.arr ty z 0 [])).put id (.row ⟨t, 1, .leaf, [.own n0 0 z], none⟩)) m := fun ro ρ w e a h1 p h3 he h4 => by
 rw [← new_at hn0]
 subst hn0
 have hlt : id < h.nxt := by
  rcases Nat.lt_or_ge id h.nxt with q | q
  ·exact q
  ·rw [p.wf.fresh id q] at hg; cases hg
 have hcell : ∀ B N, ρ id = some (B, N) → ∃ x, w.cell? ⟨B, 0, none⟩ = some x ∧ VR ρ u x := fun B N e => by
  have := p.hr.ok id B N e (by unfold Heap.ok; rw [hg]; simp only []; rw [Heap.row_of hg]; rfl)
  rw [hg] at this
  have ro : RowOk ρ ⟨t, 1, .leaf, [u], none⟩ B N w := this
  obtain ⟨x, x1, x2⟩ := ro.2.2.2 0 (by show 0 < 1; omega)
  rw [row1] at x2
  exact ⟨x, x1, x2⟩
 obtain ⟨v0, a0, hv0, hall⟩ : ∃ v0 a0, v0 = Value.slice a0 0 0 ∧ ∀ B N, ρ id = some (B, N) → w.cell? ⟨B, 0, none⟩ = some v0 := by
  cases hid : ρ id with
  | none => exact ⟨_, none, rfl, fun B N e => by cases e⟩
  | some y =>
   obtain ⟨B, N⟩ := y
   obtain ⟨x, x1, x2⟩ := hcell B N hid
   obtain ⟨a, ha⟩ := noRoom_at hu x2
   exact ⟨x, a, ha, fun B' N' e => by cases e; exact x1⟩
 obtain ⟨ρ', p', hs, v1, hm, _⟩ := p.tokV ty z hv0 hz
 have hne : id ≠ h.nxt := by omega
 have hg' : (h.new (.arr ty z 0 [])).get id = .row ⟨t, 1, .leaf, [u], none⟩ := by rw [Heap.get_new, if_neg hne]; exact hg
 refine ⟨ρ', e, h1.mono hs, p'.cellV hg' rfl rfl rfl rfl (fun B N e1 j v hj hc q => ?_), h3.mono hs, he, h4.mono hs⟩
 have hj : j = 0 := by have hj : j < 1 := hj; omega
 subst hj
 rw [row1]
 have e2 : ρ id = some (B, N) := by
  have : ρ'.m id = some (B, N) := e1
  rw [hm] at this; exact this
 rw [hall B N e2] at hc
 cases hc
 simp only [VR]
 exact ⟨v1, .inl ⟨trivial, _, hv0⟩⟩
theorem Ops.weakAt (E : Env X.c tb) (d : Nat) {u v : AV} (hd : o.dst = some d) (hs : Nat.ble (d + 1) sz = true) (hw : Want all L o true) (hop : Hop X L h o u h) (H : ∀ ρ x, VR ρ u x → VR ρ v x) (nx : Ops X sz rd all rest k ((d, v) :: (d, u) :: L) h m Q) : Ops X sz rd all (o :: rest) k L h m Q :=
 Ops.val E hd hs hw hop (Ops.change (Chg.weak d (by unfold lkO; rw [Nat.beq_refl]) H) nx)
end
noncomputable def hq (N : Nat) (bs : List AB) : Heap := ⟨N, T.put .none bs .leaf 0, .leaf, []⟩
theorem row_at_i {t : TypeId} {cs : List AV} {j : Nat} (hj : j < cs.length) : Row.get ⟨t, cs.length, .leaf, cs, none⟩ j = cs.getD j .bad := by
 unfold Row.get
 rw [show (T.leaf : T (Option AV)).get none j = none from get_leaf none j]
 simp only [Nat.mod_eq_of_lt hj, nth_eq, List.getD_eq_getElem?_getD, List.getElem?_eq_getElem hj]
 rfl
theorem lows_at {n : Nat} : ∀ {cs : List AV} {j : Nat}, lowsB n cs = true → j < cs.length → lowB n (cs.getD j .bad) = true
 | [], _, _, h => by simp at h
 | c :: cs, j, h, hj => by
  simp only [lowsB] at h
  split at h
  ·rename_i hc
   cases j with
   | zero => exact hc
   | succ j => exact lows_at (cs := cs) h (by simpa using hj)
  ·cases h
theorem inds_at {n : Nat} : ∀ {cs : List AV} {j : Nat}, indsB n cs = true → j < cs.length → indB n (cs.getD j .bad) = true
 | [], _, _, h => by simp at h
 | c :: cs, j, h, hj => by
  simp only [indsB] at h
  split at h
  ·rename_i hc
   cases j with
   | zero => exact hc
   | succ j => exact inds_at (cs := cs) h (by simpa using hj)
  ·cases h
theorem low_row {n N : Nat} {t : TypeId} {cs : List AV} (hN : cs.length = N) (h : lowsB n cs = true) : ABLow n (.row ⟨t, N, .leaf, cs, none⟩) := by
 subst hN
 refine ⟨rfl, ?_⟩
 rw [List.all_eq_true]
 intro j hj
 have hj : j < cs.length := by simpa using hj
 rw [row_at_i hj]; exact lows_at h hj
theorem ind_row {n N : Nat} {t : TypeId} {cs : List AV} (hN : cs.length = N) (h : indsB n cs = true) : ABInd n (.row ⟨t, N, .leaf, cs, none⟩) := by
 subst hN
 show ((List.range cs.length).all fun j => indB n (Row.get ⟨t, cs.length, .leaf, cs, none⟩ j)) = true
 rw [List.all_eq_true]
 intro j hj
 have hj : j < cs.length := by simpa using hj
 rw [row_at_i hj]; exact inds_at h hj
end Go.Px
end
section
namespace Go.Px
section
variable {X : Cx} {tb : List (Nat × TE)} (E : Env X.c tb) {sz : Nat} {rd : Option Nat} {all : Array Oper} {o : Oper} {rest : List Oper} {k : List It} {L : List (Nat × AV)} {h : Heap} {m : List Nat} {Q : Post}
include E
theorem Go.rangeAt (n : Nat) {f : Operand} {ps : Array Tmp} {assign body bodyG : Code} {g : FuncId} {fn : Func} {first cap : List AV} (hn : h.nxt = n) (hfv : evL L f = some (.fn (.func g) first cap)) (hf : X.c.P.funcs[g]? = some fn) (hb : fn.body = some bodyG)
  (hlen : Nat.ble (first ++ [AV.fn (.yield (n + 1)) [] []] ++ cap).length fn.ntmps = true) (hon : onceB L = true)
  (H : ∀ gx R, R = (⟨.ready, none, 0, T.put und (envLs L sz) .leaf 0, sz, ps.toList, assign, body, n⟩ : ALoop) → Go ⟨X.c, X.w0, X.F0, X.opn, X.g, none, [], (held L (n :: m) none ++ [AV.ptr (n + 1) 0]) ++ X.gv, gx ++ X.gx⟩ fn.ntmps none [.code bodyG] (argsL (first ++ [AV.fn (.yield (n + 1)) [] []] ++ cap) 0) (newAt (n + 1) (newAt n h (.dfr true)) (.loop R)) []
   (FinI X.c fn.results.toList fun _ h' => AfterR X sz none k L (n + 1) (n :: m) Q h')) (hro : X.ro = none := by rfl) : Go X sz none (.code (.rangeFunc f ps assign body) :: k) L h m Q := by
 subst hn
 exact Go.range E hfv hf hb hlen hon (fun gx => H gx _ rfl) hro
omit E
theorem Go.toQ {L' : List (Nat × AV)} {c : Code} {bs : List AB} {N : Nat} (g : Go X sz rd (.lp c :: k) L' (hq N bs) m Q) (hN : bs.length = N) (hg : ∀ i r, X.c.g0.get i ≠ .gl r) (hs : SubL L L') (hlow : lowL N L' = true) (hn : Nat.ble N h.nxt = true) (hb : getsP h bs 0) (hbl : lowsP N bs)
  (hm : (m.all fun i => Nat.ble (i + 1) N) = true) (hrd : rdLow N rd = true) (hG : lowsB N X.gv = true := by rfl) (hz : X.g = none ∨ Nat.ble 2 N = true := by first | exact .inl rfl | exact .inr rfl) : Go X sz rd (.lp c :: k) L h m Q := by
 subst hN
 exact Go.toC g hg hs hlow hn hb hbl hm hrd hG hz
theorem Go.toHQ {L' : List (Nat × AV)} {c : Code} {bs : List AB} {N : Nat} (g : Go X sz rd (.code c :: k) L' (hq N bs) m Q) (hN : bs.length = N) (hg : ∀ i r, X.c.g0.get i ≠ .gl r) (hs : SubL L L') (hlow : lowL N L' = true) (hn : Nat.ble N h.nxt = true) (hb : getsP h bs 0) (hbl : lowsP N bs)
  (hm : (m.all fun i => Nat.ble (i + 1) N) = true) (hrd : rdLow N rd = true) (hG : lowsB N X.gv = true := by rfl) (hz : X.g = none ∨ Nat.ble 2 N = true := by first | exact .inl rfl | exact .inr rfl) : Go X sz rd (.code c :: k) L h m Q := by
 subst hN
 exact Go.toH g hg hs hlow hn hb hbl hm hrd hG hz
theorem Chg.tokAt (n t : Nat) (ty z : Nat) (hn : h.nxt = n) (hl : lkO L t = some .nilsl) (hz : X.g = none ∨ Nat.ble 1 n = true := by first | exact .inl rfl | exact .inr rfl) : Chg X sz rd L h ((t, .own n 0 z) :: L) (newAt n h (.arr ty z 0 [])) m := by
 subst hn
 exact Chg.tok t ty z hl hz
theorem Go.afterN {l : Nat} {r : ALoop} (hl : h.get l = .loop r) (hp : r.pending = none) (hs : r.state = .ready ∨ r.state = .done) (n : Go X sz none k L (h.put l (.loop { r with state := .exhausted })) m Q) : AfterR X sz none k L l m Q h := by
 obtain ⟨st, pe, a1, a2, a3, a4, a5, a6, a7⟩ := r
 have hp : pe = none := hp
 subst hp
 refine ⟨_, hl, fun q => ?_, fun e he => n.run e he⟩
 rcases hs with hs | hs <;> rw [hs] at q <;> cases q
end
end Go.Px
end
section
namespace Go.Px
section
variable {X : Cx} {tb : List (Nat × TE)} (E : Env X.c tb) {sz : Nat} {rd : Option Nat} {all : Array Oper} {o : Oper} {rest : List Oper} {k : List It} {L : List (Nat × AV)} {h : Heap} {m : List Nat} {Q : Post}
include E
theorem Hop.build0 {t el : Nat} {e ee : TE} (ho : o.op = .buildSlice t 0 #[]) (ht : lkT tb t = some e) (hk : e.k = .slice el) (hel : lkT tb el = some ee) : Hop X L h o (.sl h.nxt 0 0 (some 0) ee.s) (newRow h el 0 .leaf []) := fun e' he => by
 have h1 := (E.t t e ht).sl hk
 have h2 := (E.t el ee hel).size
 rw [ho]; simp only [opA, parts]
 simp only [oBuildSlice, h1, h2, List.map_nil, valH]
theorem Ops.csl0 (n : Nat) {d t el : Nat} {e ee : TE} (hd : o.dst = some d) (hs : Nat.ble (d + 1) sz = true) (hw : Want all L o true) (hn : h.nxt = n) (ho : o.op = .buildSlice t 0 #[]) (ht : lkT tb t = some e) (hk : e.k = .slice el) (hel : lkT tb el = some ee) (nx : Ops X sz rd all rest k ((d, .csl) :: (d, .sl n 0 0 (some 0) ee.s) :: L) (Px.rowAt n h el 0 []) m Q) : Ops X sz rd all (o :: rest) k L h m Q := by
 have hop := Hop.build0 E (X := X) (L := L) (h := h) ho ht hk hel
 rw [hn, row_at hn] at hop
 exact Ops.mem E hd hs hw hop (by rw [← row_at hn]; exact ArrKeep.new rfl) (Ops.change (Chg.weak d (by unfold lkO; rw [Nat.beq_refl]) (weak_csl n 0 ee.s)) nx)
end
end Go.Px
end
section
namespace Go.Px
open Go.Deep Go.ChangeShapes Go.WideShapes
def held0 (W : World) (B : Nat) : List Value := match W.heap[B]? with
 | some (.cells c _ _) => c.toList
 | _ => []
theorem held0_at {W : World} {B j : Nat} {x : Value} : (held0 W B)[j]? = some x ↔ W.cell? ⟨B, j, none⟩ = some x := by
 unfold held0 World.cell?
 split
 ·rename_i c t f e
  simp [e]
 ·rename_i e
  constructor
  ·intro h; simp at h
  ·intro h
   split at h
   ·rename_i c t f e2; exact absurd e2 (e c t f)
   ·cases h
theorem held0_fz (W : World) : FzW (held0 W) W := fun B j x h => held0_at.1 h
/-! ## it reads as before -/
theorem trodAll_carry {H : Type} {enc : TypeId × Value → H} {P : Program} {w w' : World} {base : Nat} {sp : Nat → Bool} {hd : Bool} : ∀ {ts : List TypeId} {vs : List Value} {ds : List (DataW H)} {ps : List MemPlace}, DataW.TrodAll enc P w base sp hd ts vs ds ps → (∀ p ∈ ps, w.sameAt w' p) → DataW.TrodAll enc P w' base sp hd ts vs ds ps
 | [], [], [], _, h, _ => h
 | _ :: _, _ :: _, _ :: _, _, ⟨p, q, ⟨n, h1⟩, h2, e⟩, hs => ⟨p, q, ⟨n, DataW.trod_carry n _ _ _ h1 fun x hx => hs x (by rw [e]; exact List.mem_append_left _ hx)⟩, trodAll_carry h2 (fun x hx => hs x (by rw [e]; exact List.mem_append_right _ hx)), e⟩
theorem ext_same {w w' : World} (h : ExtW w w') {p : MemPlace} (hp : p.block < w.heap.size) : w.sameAt w' p := by
 cases p with
 | cell b off =>
  show w'.cell? ⟨b, off, none⟩ = w.cell? ⟨b, off, none⟩
  unfold World.cell?
  rw [h.2 b hp]
 | map b => exact h.2 b hp
theorem ext_kept {w w' : World} (h : ExtW w w') (may : MemPlace → Prop) : w.keptBut w' may := by
 refine ⟨h.1.os, h.1.output, fun i hi => ?_⟩
 rw [h.2 i hi]
 cases w.heap[i]? with
 | none => rfl
 | some b => cases b <;> first | rfl | exact ⟨rfl, rfl, rfl, fun _ _ => rfl⟩ | exact .inr ⟨rfl, rfl⟩
theorem KOk.calls {c : Ctx} (k : CtxOk c) {f : FuncId} {fn : Func} (hf : c.P.funcs[f]? = some fn) (hb : fn.body.isSome = true) {args : List AV} {v : AV} (hk : KOk c f args v) {W : World} {A : List Value} (hA : VRs (fzm (held0 W)) args A) : Calls c.P f A.toArray W fun e W' => ∃ z, e = .returned z ∧ ExtW W W' ∧ ∃ ρ, VR ρ v z := by
 obtain ⟨nx, w1, q1, q2⟩ := hk (held0 W) W A (held0_fz W) hA
 obtain ⟨bd, hbd⟩ := Option.isSome_iff_exists.1 hb
 have hnm : fn.name ≠ "runtime.NumGoroutine" := by simpa using k.names f fn hf
 have hcall : (callFunc f A.toArray).run c.P W = .ok (.enter f A.toArray) W := by simp [callFunc, hf, hnm, hbd]
 rw [hcall] at q1
 cases q1
 have q3 : CallsIn Fence.wide 0 c.P f A.toArray W (EndR _) := q2
 refine (callsIn_wide.1 q3).mono fun e w' r => ?_
 cases e with
 | returned z =>
  obtain ⟨g, F', _, _, _, hv⟩ := r
  exact ⟨z, rfl, g, fzm F', hv⟩
 | panicked ch => exact r.elim
 | outgrown => exact r.elim
end Go.Px
end
section
namespace Go.Px
section
variable {c : Ctx} (k : CtxOk c) (kn : ∀ f, c.kn.get none f = none) {draw : DrawOk} (dc : DrawCalm draw) (dr : DrawSound c draw) {ext : Ext} (hx : ExtOk c ext) {lim : Nat}
include k kn dc dr hx
theorem app_ok : ∀ n, AppOk c (app c draw lim ext n) := by
 intro n
 induction n with
 | zero => intro t args h v h' he; cases he
 | succ n ih =>
  intro t args h v h' he ρ w A hr wf fr hA
  cases t with
  | f f =>
   have he' : (match known c f args with | some v => Ans.ok v h | none => callA c draw (app c draw lim ext n) lim ext f args h) = .ok v h' := he
   have hkn : known c f args = none := by unfold known; rw [kn f]
   rw [hkn] at he'
   exact callA_ok k dc dr hx ih he' hr wf fr hA
  | y l => exact fun B N hl => yieldA_ok k dc dr ih he hr wf fr hA hl
end
end Go.Px
end
section
namespace Go.Px
def inL (xs : List Nat) (f : Nat) : Bool := match xs with | [] => false | x :: r => (match Nat.beq x f with | true => true | false => inL r f)
theorem inL_mem : ∀ {xs : List Nat} {f : Nat}, inL xs f = true → f ∈ xs
 | [], _, h => by cases h
 | x :: r, f, h => by
  unfold inL at h
  split at h
  ·rename_i q; rw [beqT q]; exact List.mem_cons_self
  ·exact List.mem_cons_of_mem _ (inL_mem h)
end Go.Px
end
section
namespace Go.Px
section
variable {X : Cx} {sz : Nat} {rd : Option Nat} {s : St}
end
end Go.Px
end
