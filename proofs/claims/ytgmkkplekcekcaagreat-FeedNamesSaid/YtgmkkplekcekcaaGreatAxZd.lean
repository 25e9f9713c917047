/-
  AxZd: 'drawA' is sound; a call of the evaluator's is the model's.
-/
import Derived.Test.YtgmkkplekcekcaaGreatAxZc
set_option linter.unusedVariables false
set_option linter.unusedSimpArgs false
namespace Go.Ax

theorem filt_lt {p q : Nat → Bool} (h : ∀ x, q x = true → p x = true) {i : Nat} (hp : p i = true) (hq : q i = false) : ∀ {l : List Nat}, i ∈ l → (l.filter q).length < (l.filter p).length := by
  have hle : ∀ l : List Nat, (l.filter q).length ≤ (l.filter p).length := by
    intro l
    induction l with
    | nil => simp
    | cons x l ih =>
      rw [List.filter_cons, List.filter_cons]
      cases hx : q x with
      | true => rw [h x hx]; simp; exact ih
      | false =>
        cases p x with
        | true => simp; omega
        | false => simpa using ih
  intro l
  induction l with
  | nil => intro hi; cases hi
  | cons x l ih =>
    intro hi
    rw [List.filter_cons, List.filter_cons]
    by_cases hx : i = x
    · subst hx
      rw [hp, hq]
      have := hle l
      simp; omega
    · have hi' : i ∈ l := by
        rcases List.mem_cons.1 hi with e | e
        · exact absurd e hx
        · exact e
      have := ih hi'
      cases hqx : q x with
      | true => rw [h x hqx]; simp; exact this
      | false =>
        cases p x with
        | true => simp; omega
        | false => simpa using this

/-- how many are not listed -/
def left (n : Nat) (listed : Array Bool) : Nat := ((List.range n).filter fun i => !listed.getD i false).length
theorem getD_iff {listed : Array Bool} {n i : Nat} (hs : listed.size = n) (hi : i < n) : listed.getD i true = listed.getD i false := by
  simp [Array.getD_eq_getD_getElem?, Array.getElem?_eq_getElem (show i < listed.size by omega)]

section
variable {c : Ctx} {app : App} {sz : Nat} {ops : Array Oper} {ms : List Nat} {wr : T (Option Nat)} {L : List PStep}
variable (st : Static c ops ms wr L) {tr : Trace c app sz ops L} {ρ0 : Map} {w0 : World} {a0 : Act}
include st

theorem Inv.fin {listed : Array Bool} {m : Nat} {σ : Map} {a : Act} {w : World} (inv : Inv (ms := ms) tr ρ0 w0 a0 listed m σ a w) (norm : ∀ s, L[m]? = some s → ¬ isIn listed s.i) (hr : Region.ready .any ops listed = []) :
    ∃ ρ', Good ρ0 (tr.H 0) w0 ρ' (tr.H L.length) w ∧ ER ρ' (tr.E L.length) a.tmps sz ∧ a.defers = a0.defers := by
  have hm : m = L.length := by
    by_cases h : m = L.length
    · exact h
    · have hle := inv.le
      have hs : L[m]? = some L[m] := List.getElem?_eq_getElem (by omega)
      obtain ⟨h1, h2, _⟩ := st.at_ m _ hs
      have : L[m].i ∈ Region.ready .any ops listed := by
        rw [mem_ready]
        refine ⟨?_, L[m].o, h1, fun ed he hb => ?_⟩
        · rw [getD_iff inv.size (st.lt hs)]
          have := norm _ hs
          unfold isIn at this
          simpa using this
        · have h3 := st.mask2 _ _ _ h1 h2 ed he hb
          have h4 := inB_spec (st.parts hs).1 h3
          obtain ⟨m', s', q1, q2, q3⟩ := (doneM_spec L m ed.on).1 h4
          rw [← q3]; exact inv.pre m' s' q1 q2
      rw [hr] at this; cases this
  subst hm
  refine ⟨_, inv.good, ⟨inv.tsz, fun t => ?_⟩, inv.defers⟩
  by_cases hw : ∃ (j : Nat) (x : PStep), L[j]? = some x ∧ x.o.dst = some t
  · obtain ⟨j, x, hx, hd⟩ := hw
    have hj := (List.getElem?_eq_some_iff.1 hx).1
    have h1 := inv.slot1 j x t hx (inv.pre j x hj hx) hd
    rw [tr.keep (m := j + 1) hj (Nat.le_refl _) t (fun j2 y q1 q2 q3 q4 => by have := st.writer q3 hx q4 hd; omega)]
    exact h1.mono (cut_mono _ (tr.mono st hj (Nat.le_refl _)))
  · rw [tr.keep (m := 0) (Nat.zero_le _) (Nat.le_refl _) t (fun j2 y q1 q2 q3 q4 => hw ⟨j2, y, q3, q4⟩)]
    exact (inv.slot0 t (fun j x hx _ hd => hw ⟨j, x, hx, hd⟩)).mono inv.good.sub

variable (k : CtxOk c) (ha : AppOk c app)
include k ha

theorem any_ok {ro : Option Nat} {Q : Exit → Act → World → Prop} (hQ : ∀ a' w' ρ', Good ρ0 (tr.H 0) w0 ρ' (tr.H L.length) w' → ER ρ' (tr.E L.length) a'.tmps sz → a'.defers = a0.defers → Q .normal a' w') :
    ∀ (fuel : Nat) (listed : Array Bool) (a : Act) (w : World) (m : Nat) (σ : Map), left ops.size listed ≤ fuel → Inv (ms := ms) tr ρ0 w0 a0 listed m σ a w → wpAnyIn (wideR ro) 0 c.P .any ops Q fuel listed a w := by
  intro fuel
  induction fuel with
  | zero =>
    intro listed a w m σ hu inv
    obtain ⟨m', inv', norm⟩ := inv.norm st _ m rfl
    have hr : Region.ready .any ops listed = [] := by
      cases hc : Region.ready .any ops listed with
      | nil => rfl
      | cons i r =>
        have hi : i ∈ Region.ready .any ops listed := by rw [hc]; exact List.mem_cons_self
        rw [mem_ready] at hi
        obtain ⟨h1, o, h2, _⟩ := hi
        have hlt := (Array.getElem?_eq_some_iff.1 h2).1
        rw [getD_iff inv.size hlt] at h1
        have : i ∈ (List.range ops.size).filter fun i => !listed.getD i false := by
          rw [List.mem_filter]; exact ⟨List.mem_range.2 hlt, by simp only [h1]; rfl⟩
        have h3 := List.length_pos_of_mem this
        unfold left at hu
        omega
    obtain ⟨ρ', g1, g2, g3⟩ := inv'.fin st norm hr
    exact ⟨hr, hQ a w ρ' g1 g2 g3⟩
  | succ fuel ih =>
    intro listed a w m σ hu inv
    obtain ⟨m', inv', norm⟩ := inv.norm st _ m rfl
    refine ⟨fun hr => ?_, fun i hi => ?_⟩
    · obtain ⟨ρ', g1, g2, g3⟩ := inv'.fin st norm hr
      exact hQ a w ρ' g1 g2 g3
    · rw [mem_ready] at hi
      obtain ⟨h1, o, h2, h3⟩ := hi
      have hlt := (Array.getElem?_eq_some_iff.1 h2).1
      rw [getD_iff inv.size hlt] at h1
      obtain ⟨j, s, hs, rfl⟩ := st.cover i hlt
      obtain ⟨a1, a2, _⟩ := st.at_ j s hs
      rw [a1] at h2; cases h2
      refine step_any st k ha inv' norm hs (by unfold isIn; rw [h1]; simp) (fun x hx => ?_) fun m2 σ2 a2 w2 inv2 => ih _ a2 w2 m2 σ2 ?_ inv2
      · obtain ⟨ed, e1, e2, e3⟩ := st.mask _ _ _ a1 a2 x hx
        have e4 := h3 ed e1 e2
        rcases e3 with rfl | e3
        · exact e4
        · cases hn : nth ms ed.on with
          | none => rw [hn, show nat0 none = 0 from rfl, bit_zero] at e3; cases e3
          | some y => rw [hn] at e3; exact inv'.closed ed.on y x e4 hn e3
      · have hdec : left ops.size (listed.setIfInBounds s.i true) < left ops.size listed := by
          unfold left
          refine filt_lt (fun x hx => ?_) (i := s.i) (by simp only [h1]; rfl) ?_ (List.mem_range.2 hlt)
          · cases hlx : listed.getD x false with
            | false => rfl
            | true =>
              have : isIn (listed.setIfInBounds s.i true) x := (in_set (by rw [inv.size]; exact hlt)).2 (.inr hlx)
              unfold isIn at this
              rw [this] at hx; cases hx
          · have : isIn (listed.setIfInBounds s.i true) s.i := (in_set (by rw [inv.size]; exact hlt)).2 (.inl rfl)
            unfold isIn at this
            rw [this]; rfl
        omega
end

theorem drawA_sound {c : Ctx} (k : CtxOk c) (hm : c.P.follows .mixedOrders = true) : DrawSound c drawA := by
  intro app ha id sz ops e e' h h' hd ρ w a ro Q hr wf fr er hQ
  unfold drawA at hd
  cases hp : plan c ops.toList with
  | none => rw [hp] at hd; cases hd
  | some L =>
    rw [hp] at hd
    simp only [] at hd
    have st := plan_static hp
    obtain ⟨tr, t1, t2, t3, t4, t5⟩ := trace_of hd
    refine wpIn_region_any hm ?_
    have hcut : cut ρ h.nxt = ρ := by
      funext i
      by_cases hi : i < h.nxt
      · exact cut_lt hi
      · rw [cut_ge (by omega), fr i (by omega)]
    have hnone : ∀ i, ¬ isIn (Array.replicate ops.size false) i := fun i hi => by
      unfold isIn at hi
      rw [Array.getD_eq_getD_getElem?, Array.getElem?_replicate] at hi
      split at hi <;> simp at hi
    refine any_ok st (tr := tr) (ρ0 := ρ) (w0 := w) (a0 := a) k ha (fun a' w' ρ' g1 g2 g3 => ?_) ops.size _ a _ 0 ρ ?_ ?_
    · rw [t2, t5] at g1
      rw [t4] at g2
      exact hQ a' w' ρ' g1 g2 g3
    · unfold left
      have := List.length_filter_le (fun i => !(Array.replicate ops.size false).getD i false) (List.range ops.size)
      simpa using this
    · refine { size := by simp, le := Nat.zero_le _, pre := (fun j s hj => by omega), nowork := fun j s _ _ hi => absurd hi (hnone _), closed := fun i pm j hi => absurd hi (hnone _), good := ?_, base := ⟨h, _, [], t3, (by rw [t2]; exact HLe.refl _)⟩, dom := fun i p hi => ?_, early := (fun j s _ _ hi => absurd hi (hnone _)), tsz := er.1, slot0 := fun t _ => by rw [t1]; exact er.2 t, slot1 := fun j s t _ hi => absurd hi (hnone _), defers := rfl }
      · rw [t2, hcut]
        exact (Good.refl hr wf).draw rfl ⟨rfl, rfl, rfl, Nat.le_refl _⟩
      · left
        rw [t2]
        by_cases h1 : i < h.nxt
        · exact h1
        · rw [fr i (by omega)] at hi; cases hi

end Go.Ax
