/-
  AxZd: 'drawA' is sound; a call of the evaluator's is the model's.
-/
import Derived.Test.YtaopfnhkfedemaaGreatDoorAxZc
set_option linter.unusedVariables false
set_option linter.unusedSimpArgs false
namespace Go.Ax

theorem filt_lt {p q : Nat → Bool} (h : ∀ x, q x = true → p x = true) {i : Nat} (hp : p i = true) (hq : q i = false) : ∀ {l : List Nat}, i ∈ l → (l.filter q).length < (l.filter p).length := by
  have hle : ∀ l : List Nat, (l.filter q).length ≤ (l.filter p).length := by
    intro l
    induction l with
    | nil => simp
    | cons x l ih =>
      rw [List.filter_cons, List.filter_cons]
      cases hx : q x with
      | true => rw [h x hx]; simp; exact ih
      | false =>
        cases p x with
        | true => simp; omega
        | false => simpa using ih
  intro l
  induction l with
  | nil => intro hi; cases hi
  | cons x l ih =>
    intro hi
    rw [List.filter_cons, List.filter_cons]
    by_cases hx : i = x
    · subst hx
      rw [hp, hq]
      have := hle l
      simp; omega
    · have hi' : i ∈ l := by
        rcases List.mem_cons.1 hi with e | e
        · exact absurd e hx
        · exact e
      have := ih hi'
      cases hqx : q x with
      | true => rw [h x hqx]; simp; exact this
      | false =>
        cases p x with
        | true => simp; omega
        | false => simpa using this

/-- how many are not listed -/
def left (n : Nat) (listed : Array Bool) : Nat := ((List.range n).filter fun i => !listed.getD i false).length
theorem getD_iff {listed : Array Bool} {n i : Nat} (hs : listed.size = n) (hi : i < n) : listed.getD i true = listed.getD i false := by
  simp [Array.getD_eq_getD_getElem?, Array.getElem?_eq_getElem (show i < listed.size by omega)]

section
variable {c : Ctx} {app : App} {sz : Nat} {ops : Array Oper} {ms : List Nat} {wr : T (Option Nat)} {L : List PStep}
variable (st : Static c ops ms wr L) {tr : Trace c app sz ops L} {ρ0 : Map} {w0 : World} {a0 : Act}
include st

theorem Inv.fin {listed : Array Bool} {m : Nat} {σ : Map} {a : Act} {w : World} (inv : Inv (ms := ms) tr ρ0 w0 a0 listed m σ a w) (norm : ∀ s, L[m]? = some s → ¬ isIn listed s.i) (hr : Region.ready .any ops listed = []) :
    ∃ ρ', Good ρ0 (tr.H 0) w0 ρ' (tr.H L.length) w ∧ ER ρ' (tr.E L.length) a.tmps sz ∧ a.defers = a0.defers := by
  have hm : m = L.length := by
    by_cases h : m = L.length
    · exact h
    · have hle := inv.le
      have hs : L[m]? = some L[m] := List.getElem?_eq_getElem (by omega)
      obtain ⟨h1, h2, _⟩ := st.at_ m _ hs
      have : L[m].i ∈ Region.ready .any ops listed := by
        rw [mem_ready]
        refine ⟨?_, L[m].o, h1, fun ed he hb => ?_⟩
        · rw [getD_iff inv.size (st.lt hs)]
          have := norm _ hs
          unfold isIn at this
          simpa using this
        · have h3 := st.mask2 _ _ _ h1 h2 ed he hb
          have h4 := inB_spec (st.parts hs).1 h3
          obtain ⟨m', s', q1, q2, q3⟩ := (doneM_spec L m ed.on).1 h4
          rw [← q3]; exact inv.pre m' s' q1 q2
      rw [hr] at this; cases this
  subst hm
  refine ⟨_, inv.good, ⟨inv.tsz, fun t => ?_⟩, inv.defers⟩
  by_cases hw : ∃ (j : Nat) (x : PStep), L[j]? = some x ∧ x.o.dst = some t
  · obtain ⟨j, x, hx, hd⟩ := hw
    have hj := (List.getElem?_eq_some_iff.1 hx).1
    have h1 := inv.slot1 j x t hx (inv.pre j x hj hx) hd
    rw [tr.keep (m := j + 1) hj (Nat.le_refl _) t (fun j2 y q1 q2 q3 q4 => by have := st.writer q3 hx q4 hd; omega)]
    exact h1.mono (cut_mono _ (tr.mono st hj (Nat.le_refl _)))
  · rw [tr.keep (m := 0) (Nat.zero_le _) (Nat.le_refl _) t (fun j2 y q1 q2 q3 q4 => hw ⟨j2, y, q3, q4⟩)]
    exact (inv.slot0 t (fun j x hx _ hd => hw ⟨j, x, hx, hd⟩)).mono inv.good.sub

variable (k : CtxOk c) (ha : AppOk c app)
include k ha

theorem any_ok {ro : Option Nat} {Q : Exit → Act → World → Prop} (hgl : ∀ i r, c.g0.get i = .gl r → (tr.H 0).get i = .gl r) (hQ : ∀ a' w' ρ', Good ρ0 (tr.H 0) w0 ρ' (tr.H L.length) w' → ER ρ' (tr.E L.length) a'.tmps sz → a'.defers = a0.defers → Q .normal a' w') :
    ∀ (fuel : Nat) (listed : Array Bool) (a : Act) (w : World) (m : Nat) (σ : Map), left ops.size listed ≤ fuel → Inv (ms := ms) tr ρ0 w0 a0 listed m σ a w → wpAnyIn (wideR ro) 0 c.P .any ops Q fuel listed a w := by
  intro fuel
  induction fuel with
  | zero =>
    intro listed a w m σ hu inv
    obtain ⟨m', inv', norm⟩ := inv.norm st _ m rfl
    have hr : Region.ready .any ops listed = [] := by
      cases hc : Region.ready .any ops listed with
      | nil => rfl
      | cons i r =>
        have hi : i ∈ Region.ready .any ops listed := by rw [hc]; exact List.mem_cons_self
        rw [mem_ready] at hi
        obtain ⟨h1, o, h2, _⟩ := hi
        have hlt := (Array.getElem?_eq_some_iff.1 h2).1
        rw [getD_iff inv.size hlt] at h1
        have : i ∈ (List.range ops.size).filter fun i => !listed.getD i false := by
          rw [List.mem_filter]; exact ⟨List.mem_range.2 hlt, by simp only [h1]; rfl⟩
        have h3 := List.length_pos_of_mem this
        unfold left at hu
        omega
    obtain ⟨ρ', g1, g2, g3⟩ := inv'.fin st norm hr
    exact ⟨hr, hQ a w ρ' g1 g2 g3⟩
  | succ fuel ih =>
    intro listed a w m σ hu inv
    obtain ⟨m', inv', norm⟩ := inv.norm st _ m rfl
    refine ⟨fun hr => ?_, fun i hi => ?_⟩
    · obtain ⟨ρ', g1, g2, g3⟩ := inv'.fin st norm hr
      exact hQ a w ρ' g1 g2 g3
    · rw [mem_ready] at hi
      obtain ⟨h1, o, h2, h3⟩ := hi
      have hlt := (Array.getElem?_eq_some_iff.1 h2).1
      rw [getD_iff inv.size hlt] at h1
      obtain ⟨j, s, hs, rfl⟩ := st.cover i hlt
      obtain ⟨a1, a2, _⟩ := st.at_ j s hs
      rw [a1] at h2; cases h2
      refine step_any st k ha hgl inv' norm hs (by unfold isIn; rw [h1]; simp) (fun x hx => ?_) fun m2 σ2 a2 w2 inv2 => ih _ a2 w2 m2 σ2 ?_ inv2
      · obtain ⟨ed, e1, e2, e3⟩ := st.mask _ _ _ a1 a2 x hx
        have e4 := h3 ed e1 e2
        rcases e3 with rfl | e3
        · exact e4
        · cases hn : nth ms ed.on with
          | none => rw [hn, show nat0 none = 0 from rfl, bit_zero] at e3; cases e3
          | some y => rw [hn] at e3; exact inv'.closed ed.on y x e4 hn e3
      · have hdec : left ops.size (listed.setIfInBounds s.i true) < left ops.size listed := by
          unfold left
          refine filt_lt (fun x hx => ?_) (i := s.i) (by simp only [h1]; rfl) ?_ (List.mem_range.2 hlt)
          · cases hlx : listed.getD x false with
            | false => rfl
            | true =>
              have : isIn (listed.setIfInBounds s.i true) x := (in_set (by rw [inv.size]; exact hlt)).2 (.inr hlx)
              unfold isIn at this
              rw [this] at hx; cases hx
          · have : isIn (listed.setIfInBounds s.i true) s.i := (in_set (by rw [inv.size]; exact hlt)).2 (.inl rfl)
            unfold isIn at this
            rw [this]; rfl
        omega
end

/-! ## a throw of a coin -/
theorem noApp_ok (c : Ctx) : AppOk c noApp := by
  intro t args h v h' he; cases he
theorem allEq_ok {n : Nat} : ∀ {l : List Nat}, allEq n l = true → ∀ i, i ∈ l → i = n
  | [], _, i, hi => by cases hi
  | x :: l, h, i, hi => by
    have h' : (match Nat.beq x n with | true => allEq n l | false => false) = true := h
    split at h'
    · rename_i hx
      rcases List.mem_cons.1 hi with rfl | hi
      · exact beqT hx
      · exact allEq_ok h' i hi
    · cases h'
theorem isBoolA_ok {v : AV} (h : isBoolA v = true) : ∃ b, v = .bool b := by
  cases v <;> first | (cases h; done) | exact ⟨_, rfl⟩
theorem coinRun_ok {h : Heap} {y : Nat} {r : SR} (q : coinRun h y r = true) :
    ∃ e g b, r = .ok e g ∧ e.get und y = .bool b ∧ (∀ i, i ∈ g.log → i = h.nxt) ∧ g.nxt = h.nxt + 1 ∧ rootOk g h.nxt = true := by
  unfold coinRun at q
  split at q
  · cases q
  · rename_i e g
    split at q
    · cases q
    · rename_i hb
      split at q
      · cases q
      · rename_i hl
        split at q
        · rename_i hr
          obtain ⟨b, hb⟩ := isBoolA_ok hb
          exact ⟨e, g, b, rfl, hb, allEq_ok hl, beqT q, hr⟩
        · cases q
theorem coin_weak {h g : Heap} (wf : WF h) (hl : Logged h.unlog g) (h1 : ∀ i, i ∈ g.log → i = h.nxt) (h2 : g.nxt = h.nxt + 1) (h3 : rootOk g h.nxt = true) : Weak ⟨h.nxt + 1, h.blk, h.tips, h.nxt :: h.log⟩ g := by
  obtain ⟨l, l1, l2⟩ := hl
  have hl' : g.log = l := by rw [l1]; simp [Heap.unlog]
  have far : ∀ i, i ≠ h.nxt → g.get i = h.get i ∧ g.tip i = h.tip i := fun i hi => l2 i (fun q => hi (h1 i (by rw [hl']; exact q)))
  refine ⟨⟨h2.symm, fun i => ?_, fun q => ?_⟩, fun i r q => ?_⟩
  · by_cases hi : i = h.nxt
    · subst hi
      refine .inl ⟨wf.fresh _ (Nat.le_refl _), fun s q q1 q2 => ?_⟩
      unfold rootOk at h3
      rw [q1] at h3
      simp only [q2, isNoneN] at h3
      cases h3
    · exact .inr (.inl (far i hi).1.symm)
  · by_cases hq : q = h.nxt
    · subst hq; exact .inl (wf.tipr _ (Nat.le_refl _))
    · exact .inr (far q hq).2.symm
  · by_cases hi : i = h.nxt
    · subst hi
      unfold rootOk at h3
      rw [q] at h3; cases h3
    · exact (far i hi).1.symm.trans q

theorem coin_masks {ops : Array Oper} {o0 o1 o2 o3 : Oper} (hops : ops = #[o0, o1, o2, o3]) (hm : masks ops.toList [] = [0, 1, 1, 7]) :
    (∀ (l0 l1 l2 l3 : Bool) i, i ∈ Region.ready .any ops #[l0, l1, l2, l3] → (i = 0 ∧ l0 = false) ∨ (i = 1 ∧ l1 = false ∧ l0 = true) ∨ (i = 2 ∧ l2 = false ∧ l0 = true) ∨ (i = 3 ∧ l3 = false ∧ l1 = true ∧ l2 = true)) ∧
    (∀ l1 l2 l3 : Bool, 0 ∈ Region.ready .any ops #[false, l1, l2, l3]) ∧ (∀ l2 l3 : Bool, 1 ∈ Region.ready .any ops #[true, false, l2, l3]) ∧ (∀ l1 l3 : Bool, 2 ∈ Region.ready .any ops #[true, l1, false, l3]) ∧ 3 ∈ Region.ready .any ops #[true, true, true, false] := by
  have at_ : ∀ (i : Nat) o, ops[i]? = some o → ∀ (m : Nat), ([0, 1, 1, 7] : List Nat)[i]? = some m → maskOf (([0, 1, 1, 7] : List Nat).take i) o.after.toList = m := fun i o ho m hi => by
    obtain ⟨n, r, a, b, d⟩ := masks_at ops.toList [] i o (by simpa using ho)
    rw [hm] at a d
    have hn : n = ([0, 1, 1, 7] : List Nat).take i := by
      rw [a, List.take_left' (by simpa using b)]
    simp only [List.length_nil, Nat.zero_add] at d
    rw [hi] at d
    cases d
    rw [hn]
  have m0 := at_ 0 o0 (by subst hops; rfl) 0 rfl
  have m1 := at_ 1 o1 (by subst hops; rfl) 1 rfl
  have m2 := at_ 2 o2 (by subst hops; rfl) 1 rfl
  have m3 := at_ 3 o3 (by subst hops; rfl) 7 rfl
  have e0 : ∀ ed ∈ o0.after, Region.binds .any ed = true → False := fun ed he hb => by
    have := (maskOf_spec (([0, 1, 1, 7] : List Nat).take 0) ed.on o0.after.toList).2 ⟨ed, by simpa using he, by rw [edgeB_eq]; exact hb, .inl rfl⟩
    rw [m0, bit_zero] at this; cases this
  have b1 : ∀ j, bitB 1 j = decide (j = 0) := fun j => bit_one 0 j
  have e1 : ∀ ed ∈ o1.after, Region.binds .any ed = true → ed.on = 0 := fun ed he hb => by
    have := (maskOf_spec (([0, 1, 1, 7] : List Nat).take 1) ed.on o1.after.toList).2 ⟨ed, by simpa using he, by rw [edgeB_eq]; exact hb, .inl rfl⟩
    rw [m1, b1] at this; simpa using this
  have e2 : ∀ ed ∈ o2.after, Region.binds .any ed = true → ed.on = 0 := fun ed he hb => by
    have := (maskOf_spec (([0, 1, 1, 7] : List Nat).take 2) ed.on o2.after.toList).2 ⟨ed, by simpa using he, by rw [edgeB_eq]; exact hb, .inl rfl⟩
    rw [m2, b1] at this; simpa using this
  have b7 : ∀ j, bitB 7 j = true → j < 3 := fun j hj => by
    rw [show (7 : Nat) = orB (bit1 0) (orB (bit1 1) (bit1 2)) from rfl, bit_or, bit_or, bit_one, bit_one, bit_one] at hj
    simp at hj; omega
  have e3 : ∀ ed ∈ o3.after, Region.binds .any ed = true → ed.on < 3 := fun ed he hb => by
    have := (maskOf_spec (([0, 1, 1, 7] : List Nat).take 3) ed.on o3.after.toList).2 ⟨ed, by simpa using he, by rw [edgeB_eq]; exact hb, .inl rfl⟩
    rw [m3] at this; exact b7 _ this
  have x1 : ∃ ed ∈ o1.after, Region.binds .any ed = true ∧ ed.on = 0 := by
    obtain ⟨ed, a, b, _⟩ := (maskOf_spec (([0, 1, 1, 7] : List Nat).take 1) 0 o1.after.toList).1 (by rw [m1]; rfl)
    have ha : ed ∈ o1.after := by simpa using a
    have hb : Region.binds .any ed = true := by rw [← edgeB_eq]; exact b
    exact ⟨ed, ha, hb, e1 ed ha hb⟩
  have x2 : ∃ ed ∈ o2.after, Region.binds .any ed = true ∧ ed.on = 0 := by
    obtain ⟨ed, a, b, _⟩ := (maskOf_spec (([0, 1, 1, 7] : List Nat).take 2) 0 o2.after.toList).1 (by rw [m2]; rfl)
    have ha : ed ∈ o2.after := by simpa using a
    have hb : Region.binds .any ed = true := by rw [← edgeB_eq]; exact b
    exact ⟨ed, ha, hb, e2 ed ha hb⟩
  have x3 : ∀ j, j = 1 ∨ j = 2 → ∃ ed ∈ o3.after, Region.binds .any ed = true ∧ ed.on = j := fun j hj => by
    obtain ⟨ed, a, b, d⟩ := (maskOf_spec (([0, 1, 1, 7] : List Nat).take 3) j o3.after.toList).1 (by rw [m3]; rcases hj with rfl | rfl <;> rfl)
    have ha : ed ∈ o3.after := by simpa using a
    have hb : Region.binds .any ed = true := by rw [← edgeB_eq]; exact b
    refine ⟨ed, ha, hb, ?_⟩
    rcases d with d | d
    · exact d.symm
    · exfalso
      have h3 := e3 ed ha hb
      have : ed.on = 0 ∨ ed.on = 1 ∨ ed.on = 2 := by omega
      rcases this with q | q | q <;> rw [q] at d <;> rcases hj with rfl | rfl <;> cases d
  subst hops
  refine ⟨fun l0 l1 l2 l3 i hi => ?_, fun l1 l2 l3 => ?_, fun l2 l3 => ?_, fun l1 l3 => ?_, ?_⟩
  · rw [mem_ready] at hi
    obtain ⟨h1, o, h2, h3⟩ := hi
    match i, h1, h2 with
    | 0, h1, h2 => exact .inl ⟨rfl, h1⟩
    | 1, h1, h2 =>
      cases h2
      obtain ⟨ed, a, b, d⟩ := x1
      have := h3 ed a b
      rw [d] at this
      exact .inr (.inl ⟨rfl, h1, this⟩)
    | 2, h1, h2 =>
      cases h2
      obtain ⟨ed, a, b, d⟩ := x2
      have := h3 ed a b
      rw [d] at this
      exact .inr (.inr (.inl ⟨rfl, h1, this⟩))
    | 3, h1, h2 =>
      cases h2
      obtain ⟨ed, a, b, d⟩ := x3 1 (.inl rfl)
      have q1 := h3 ed a b
      rw [d] at q1
      obtain ⟨ed, a, b, d⟩ := x3 2 (.inr rfl)
      have q2 := h3 ed a b
      rw [d] at q2
      exact .inr (.inr (.inr ⟨rfl, h1, q1, q2⟩))
    | n + 4, h1, h2 => simp at h2
  · rw [mem_ready]
    exact ⟨rfl, o0, rfl, fun ed he hb => (e0 ed he hb).elim⟩
  · rw [mem_ready]
    exact ⟨rfl, o1, rfl, fun ed he hb => by rw [e1 ed he hb]; rfl⟩
  · rw [mem_ready]
    exact ⟨rfl, o2, rfl, fun ed he hb => by rw [e2 ed he hb]; rfl⟩
  · rw [mem_ready]
    refine ⟨rfl, o3, rfl, fun ed he hb => ?_⟩
    have h3 := e3 ed he hb
    have : ed.on = 0 ∨ ed.on = 1 ∨ ed.on = 2 := by omega
    rcases this with q | q | q <;> rw [q] <;> rfl

theorem coin_next {ops : Array Oper} (rE : ∀ (l0 l1 l2 l3 : Bool) i, i ∈ Region.ready .any ops #[l0, l1, l2, l3] → (i = 0 ∧ l0 = false) ∨ (i = 1 ∧ l1 = false ∧ l0 = true) ∨ (i = 2 ∧ l2 = false ∧ l0 = true) ∨ (i = 3 ∧ l3 = false ∧ l1 = true ∧ l2 = true)) :
    (∀ j, j ∈ Region.ready .any ops #[false, false, false, false] → j = 0) ∧ (∀ j, j ∈ Region.ready .any ops #[true, false, false, false] → j = 1 ∨ j = 2) ∧ (∀ j, j ∈ Region.ready .any ops #[true, true, false, false] → j = 2) ∧
    (∀ j, j ∈ Region.ready .any ops #[true, false, true, false] → j = 1) ∧ (∀ j, j ∈ Region.ready .any ops #[true, true, true, false] → j = 3) ∧ (∀ j, j ∈ Region.ready .any ops #[true, true, true, true] → False) := by
  refine ⟨fun j hj => ?_, fun j hj => ?_, fun j hj => ?_, fun j hj => ?_, fun j hj => ?_, fun j hj => ?_⟩ <;>
    rcases rE _ _ _ _ _ hj with ⟨a, b⟩ | ⟨a, b, d⟩ | ⟨a, b, d⟩ | ⟨a, b, d, f⟩ <;>
    first
      | (cases b; done)
      | (cases d; done)
      | (cases f; done)
      | exact a
      | exact .inl a
      | exact .inr a

theorem wpAny_one {ro : Option Nat} {P : Program} {ops : Array Oper} {Q : Exit → Act → World → Prop} {fuel : Nat} {listed : Array Bool} {a : Act} {w : World} {i : Nat} (hi : i ∈ Region.ready .any ops listed)
    (h : ∀ j, j ∈ Region.ready .any ops listed → wpOpIn (wideR ro) 0 P ops Q j (wpAnyIn (wideR ro) 0 P .any ops Q fuel (listed.setIfInBounds j true)) a w) : wpAnyIn (wideR ro) 0 P .any ops Q (fuel + 1) listed a w :=
  ⟨fun e => (by rw [e] at hi; cases hi), h⟩

theorem runOps_chop {c : Ctx} {app : App} {sz : Nat} {ops l : List Oper} {o : Oper} {e e' : T AV} {h h' : Heap} (q : runOps c app sz ops (o :: l) e h = .ok e' h') :
    ∃ e1 h1, stepA c app sz ops o e h = .ok e1 h1 ∧ runOps c app sz ops l e1 h1 = .ok e' h' := by
  have q' : (match stepA c app sz ops o e h with | .ok e' h' => runOps c app sz ops l e' h' | .bad l => .bad l) = SR.ok e' h' := q
  split at q'
  · rename_i e1 h1 hs; exact ⟨e1, h1, hs, q'⟩
  · cases q'

theorem coin_ok {c : Ctx} (k : CtxOk c) {sz : Nat} {ops : Array Oper} {e e' : T AV} {h h' : Heap} (hd : coinA c sz ops.toList e h = some (e', h')) {ρ : Map} {w : World} {a : Act} {ro : Option Nat} {Q : Exit → Act → World → Prop}
    (hr : HR ρ h w) (wf : WF h) (fr : FreeUp c ρ h) (er : ER ρ e a.tmps sz) (hQ : ∀ a' w' ρ', Good ρ h w ρ' h' w' → ER ρ' e' a'.tmps sz → a'.defers = a.defers → Q .normal a' w') :
    wpAnyIn (wideR ro) 0 c.P .any ops Q ops.size (Array.replicate ops.size false) a w := by
  unfold coinA at hd
  split at hd
  · cases hd
  · rename_i o0 r0 hl0
    split at hd
    · cases hd
    · rename_i o1 r1
      split at hd
      · cases hd
      · rename_i o2 r2
        split at hd
        · cases hd
        · rename_i o3 r3
          split at hd
          · unfold coin4 at hd
            split at hd
            · cases hd
            · rename_i hmk
              have hmk := natsEqB_eq hmk
              have hops : ops = #[o0, o1, o2, o3] := by apply Array.ext'; rw [hl0]
              split at hd
              · cases hd
              · rename_i hcm
                split at hd
                · cases hd
                · rename_i x hx
                  split at hd
                  · cases hd
                  · rename_i y hy
                    split at hd
                    · cases hd
                    · rename_i hd1
                      split at hd
                      · cases hd
                      · rename_i hd2
                        split at hd
                        · cases hd
                        · rename_i hA
                          split at hd
                          · cases hd
                          · rename_i hB
                            cases hd
                            have hcm' : ∀ o, o ∈ [o0, o1, o2, o3] → calmOp o.op = true := fun o ho => calmOps_mem hcm o (by rw [hl0]; exact ho)
                            obtain ⟨rE, r0, r1, r2, r3⟩ := coin_masks hops hmk
                            obtain ⟨q0, q1, q1a, q1b, q3, q4⟩ := coin_next rE
                            obtain ⟨eA, gA, bA, ka1, ka2, ka3, ka4, ka5⟩ := coinRun_ok hA
                            obtain ⟨eB, gB, bB, kb1, kb2, kb3, kb4, kb5⟩ := coinRun_ok hB
                            -- at the end
                            have fin : ∀ (l : List Oper) (eX : T AV) (gX : Heap) (bX : Bool), (∀ o ∈ l, o = o0 ∨ o = o1 ∨ o = o2 ∨ o = o3) → runOps c noApp sz ops.toList l e h.unlog = .ok eX gX → eX.get und y = .bool bX →
                                (∀ i, i ∈ gX.log → i = h.nxt) → gX.nxt = h.nxt + 1 → rootOk gX h.nxt = true → ∀ a' w' ρ', Good ρ h.unlog w ρ' gX w' → ER ρ' eX a'.tmps sz → a'.defers = a.defers → Q .normal a' w' := by
                              intro l eX gX bX hl q1 q2 q3 q4 q5 a' w' ρ' g1 g2 g3
                              obtain ⟨c1, c2⟩ := runOps_calm (fun o ho => hcm' o (by rcases hl o ho with q | q | q | q <;> simp [q])) q1
                              refine hQ a' w' ρ' (g1.ofUnlog.weak (coin_weak wf c1 q3 q4 q5)) ⟨g2.1, fun t => ?_⟩ g3
                              rw [get_set]
                              by_cases ht : t = y
                              · subst ht
                                rw [if_pos rfl]
                                have := g2.2 t
                                rw [q2] at this
                                simp only [VR] at this ⊢
                                exact ⟨_, this⟩
                              · rw [if_neg ht, get_set]
                                by_cases ht2 : t = x
                                · rw [if_pos ht2]; simp only [VR]
                                · rw [if_neg ht2, ← c2 t (fun o ho q => by
                                    rcases hl o ho with r | r | r | r <;> subst r
                                    · rw [hx] at q; cases q; exact ht2 rfl
                                    · rw [hd1] at q; cases q
                                    · rw [hd2] at q; cases q
                                    · rw [hy] at q; cases q; exact ht rfl)]
                                  exact g2.2 t
                            have i0 : ops[0]? = some o0 := by rw [hops]; rfl
                            have i1 : ops[1]? = some o1 := by rw [hops]; rfl
                            have i2 : ops[2]? = some o2 := by rw [hops]; rfl
                            have i3 : ops[3]? = some o3 := by rw [hops]; rfl
                            obtain ⟨e1, h1, s0, t0⟩ := runOps_chop ka1
                            obtain ⟨e2, h2, s1, t1⟩ := runOps_chop t0
                            obtain ⟨e3, h3, s2, t2⟩ := runOps_chop t1
                            obtain ⟨e4, h4, s3, t3⟩ := runOps_chop t2
                            have t3' : SR.ok e4 h4 = SR.ok eA gA := t3
                            cases t3'
                            obtain ⟨f1, k1, u0, v0⟩ := runOps_chop kb1
                            rw [s0] at u0; cases u0
                            obtain ⟨f2, k2, u1, v1⟩ := runOps_chop v0
                            obtain ⟨f3, k3, u2, v2⟩ := runOps_chop v1
                            obtain ⟨f4, k4, u3, v3⟩ := runOps_chop v2
                            have v3' : SR.ok f4 k4 = SR.ok eB gB := v3
                            cases v3'
                            have hsz : ops.size = 4 := by rw [hops]; rfl
                            have hrep : Array.replicate ops.size false = #[false, false, false, false] := by rw [hsz]; rfl
                            rw [hrep, hsz]
                            have hn := noApp_ok c
                            refine wpAny_one (r0 false false false) fun j hj => ?_
                            have hj0 : j = 0 := q0 j hj
                            subst hj0
                            refine stepA_ok k hn hr.unlog wf.unlog fr i0 er s0 fun a' w' ρ' g1 g2 g3 => ?_
                            refine wpAny_one (r1 false false) fun j hj => ?_
                            have hj1 : j = 1 ∨ j = 2 := q1 j hj
                            rcases hj1 with rfl | rfl
                            · refine stepA_ok k hn g1.hr g1.wf (g1.up fr) i1 g2 s1 fun a2 w2 ρ2 p1 p2 p3 => ?_
                              refine wpAny_one (r2 true false) fun j hj => ?_
                              have hj2 : j = 2 := q1a j hj
                              subst hj2
                              refine stepA_ok k hn p1.hr p1.wf (p1.up (g1.up fr)) i2 p2 s2 fun a3 w3 ρ3 x1 x2 x3 => ?_
                              refine wpAny_one r3 fun j hj => ?_
                              have hj3 : j = 3 := q3 j hj
                              subst hj3
                              refine stepA_ok k hn x1.hr x1.wf (x1.up (p1.up (g1.up fr))) i3 x2 s3 fun a4 w4 ρ4 y1 y2 y3 => ?_
                              refine ⟨?_, fin [o0, o1, o2, o3] _ _ bA (by simp) ka1 ka2 ka3 ka4 ka5 a4 w4 ρ4 (((g1.trans p1).trans x1).trans y1) y2 (by rw [y3, x3, p3, g3])⟩
                              cases hc : Region.ready .any ops _ with
                              | nil => rfl
                              | cons z zs =>
                                have h9 : z ∈ z :: zs := List.mem_cons_self
                                rw [← hc] at h9
                                exact (q4 z h9).elim
                            · refine stepA_ok k hn g1.hr g1.wf (g1.up fr) i2 g2 u1 fun a2 w2 ρ2 p1 p2 p3 => ?_
                              refine wpAny_one (r1 true false) fun j hj => ?_
                              have hj2 : j = 1 := q1b j hj
                              subst hj2
                              refine stepA_ok k hn p1.hr p1.wf (p1.up (g1.up fr)) i1 p2 u2 fun a3 w3 ρ3 x1 x2 x3 => ?_
                              refine wpAny_one r3 fun j hj => ?_
                              have hj3 : j = 3 := q3 j hj
                              subst hj3
                              refine stepA_ok k hn x1.hr x1.wf (x1.up (p1.up (g1.up fr))) i3 x2 u3 fun a4 w4 ρ4 y1 y2 y3 => ?_
                              refine ⟨?_, fin [o0, o2, o1, o3] _ _ bB (by simp) kb1 kb2 kb3 kb4 kb5 a4 w4 ρ4 (((g1.trans p1).trans x1).trans y1) y2 (by rw [y3, x3, p3, g3])⟩
                              cases hc : Region.ready .any ops _ with
                              | nil => rfl
                              | cons z zs =>
                                have h9 : z ∈ z :: zs := List.mem_cons_self
                                rw [← hc] at h9
                                exact (q4 z h9).elim
          · cases hd

theorem drawA_sound {c : Ctx} (k : CtxOk c) (hm : c.P.follows .mixedOrders = true) : DrawSound c drawA := by
  intro app ha id sz ops e e' h h' hd ρ w a ro Q hr wf fr er hQ
  unfold drawA at hd
  cases hp : plan c ops.toList with
  | none =>
    rw [hp] at hd
    simp only [] at hd
    split at hd
    · rename_i e1 h1 hc
      cases hd
      refine wpIn_region_any hm ?_
      have hr1 : HR ρ h { w with drawn := w.drawn + 1 } := hr.same rfl
      have g0 : Good ρ h w ρ h { w with drawn := w.drawn + 1 } := (Good.refl hr wf).draw rfl ⟨rfl, rfl, rfl, Nat.le_refl _⟩
      exact coin_ok k hc hr1 wf fr er fun a' w' ρ' g1 g2 g3 => hQ a' w' ρ' (g0.trans g1) g2 g3
    · cases hd
  | some L =>
    rw [hp] at hd
    simp only [] at hd
    have st := plan_static hp
    obtain ⟨tr, t1, t2, t3, t4, t5⟩ := trace_of hd
    refine wpIn_region_any hm ?_
    have hcut : cut ρ h.nxt = ρ := by
      funext i
      by_cases hi : i < h.nxt
      · exact cut_lt hi
      · rw [cut_ge (by omega), fr.1 i (by omega)]
    have hnone : ∀ i, ¬ isIn (Array.replicate ops.size false) i := fun i hi => by
      unfold isIn at hi
      rw [Array.getD_eq_getD_getElem?, Array.getElem?_replicate] at hi
      split at hi <;> simp at hi
    refine any_ok st (tr := tr) (ρ0 := ρ) (w0 := w) (a0 := a) k ha (by rw [t2]; exact fr.2) (fun a' w' ρ' g1 g2 g3 => ?_) ops.size _ a _ 0 ρ ?_ ?_
    · rw [t2, t5] at g1
      rw [t4] at g2
      exact hQ a' w' ρ' g1 g2 g3
    · unfold left
      have := List.length_filter_le (fun i => !(Array.replicate ops.size false).getD i false) (List.range ops.size)
      simpa using this
    · refine { size := by simp, le := Nat.zero_le _, pre := (fun j s hj => by omega), nowork := fun j s _ _ hi => absurd hi (hnone _), closed := fun i pm j hi => absurd hi (hnone _), good := ?_, base := ⟨h, _, [], t3, (by rw [t2]; exact HLe.refl _)⟩, dom := fun i p hi => ?_, early := (fun j s _ _ hi => absurd hi (hnone _)), tsz := er.1, slot0 := fun t _ => by rw [t1]; exact er.2 t, slot1 := fun j s t _ hi => absurd hi (hnone _), defers := rfl }
      · rw [t2, hcut]
        exact (Good.refl hr wf).draw rfl ⟨rfl, rfl, rfl, Nat.le_refl _⟩
      · left
        rw [t2]
        by_cases h1 : i < h.nxt
        · exact h1
        · rw [fr.1 i (by omega)] at hi; cases hi


/-! ## few operations -/
theorem runP_calm {c : Ctx} {app : App} {sz : Nat} {ops : List Oper} {s : PStep} {e e' : T AV} {h h' : Heap} {bs bs' : List (Heap × Nat)} (hc : calmOp s.o.op = true) (q : runP c app sz ops s e h bs = .ok e' h' bs') :
    Logged h h' ∧ ∀ t, s.o.dst ≠ some t → e'.get und t = e.get und t := by
  have sr : ∀ {d : Option Tmp} {v : AV} {h1 h2 : Heap} {b1 b2 : List (Heap × Nat)} {e2 : T AV}, setR e d v sz h1 b1 = .ok e2 h2 b2 → h2 = h1 ∧ ∀ t, d ≠ some t → e2.get und t = e.get und t := fun {d v h1 h2 b1 b2 e2} q => by
    unfold setR at q
    split at q
    · cases q; exact ⟨rfl, fun _ _ => rfl⟩
    · split at q
      · cases q; exact ⟨rfl, fun t ht => get_set_ne _ _ (fun k => ht (by rw [k])) _⟩
      · cases q
  unfold runP at q
  split at q
  · cases q
  · obtain ⟨rfl, h2⟩ := sr q; exact ⟨Logged.refl _, h2⟩
  · split at q
    · split at q
      · obtain ⟨rfl, h2⟩ := sr q; exact ⟨Logged.refl _, h2⟩
      · cases q
    · split at q
      · obtain ⟨rfl, h2⟩ := sr q; exact ⟨Logged.refl _, h2⟩
      · cases q
    · split at q
      · rename_i v h1 hop
        obtain ⟨rfl, h2⟩ := sr q; exact ⟨Logged.opA hc hop, h2⟩
      · cases q
    · split at q
      · cases q
      · rename_i v h1 hop
        split at q
        · obtain ⟨rfl, h2⟩ := sr q; exact ⟨Logged.opA hc hop, h2⟩
        · cases q
      · rename_i t args h1 hop
        exact (calm_noGo hc hop).elim
theorem runPs_calm {c : Ctx} {app : App} {sz : Nat} {ops : List Oper} : ∀ {L : List PStep} {e e' : T AV} {h h' : Heap} {bs : List (Heap × Nat)}, (∀ s ∈ L, calmOp s.o.op = true) → runPs c app sz ops L e h bs = .ok e' h' →
    Logged h h' ∧ ∀ t, (∀ s ∈ L, s.o.dst ≠ some t) → e'.get und t = e.get und t
  | [], e, e', h, h', bs, hc, q => by cases q; exact ⟨Logged.refl _, fun _ _ => rfl⟩
  | s :: L, e, e', h, h', bs, hc, q => by
    have q' : (match runP c app sz ops s e h bs with
      | .ok e' h' bs' => runPs c app sz ops L e' h' bs'
      | .bad l => .bad l) = SR.ok e' h' := q
    split at q'
    · rename_i e1 h1 b1 hs
      obtain ⟨a1, a2⟩ := runP_calm (hc s List.mem_cons_self) hs
      obtain ⟨c1, c2⟩ := runPs_calm (fun x hx => hc x (List.mem_cons_of_mem _ hx)) q'
      exact ⟨a1.trans c1, fun t ht => (c2 t (fun x hx => ht x (List.mem_cons_of_mem _ hx))).trans (a2 t (ht s List.mem_cons_self))⟩
    · cases q'
theorem coinA_spec {c : Ctx} {sz : Nat} {ops : List Oper} {e e' : T AV} {h h' : Heap} (hd : coinA c sz ops e h = some (e', h')) :
    ∃ o0 o3 x y, o0 ∈ ops ∧ o3 ∈ ops ∧ o0.dst = some x ∧ o3.dst = some y ∧ e' = (e.set und x .bad).set und y .anyb ∧ h' = ⟨h.nxt + 1, h.blk, h.tips, h.nxt :: h.log⟩ := by
  unfold coinA at hd
  split at hd
  · cases hd
  · rename_i o0 r0
    split at hd
    · cases hd
    · rename_i o1 r1
      split at hd
      · cases hd
      · rename_i o2 r2
        split at hd
        · cases hd
        · rename_i o3 r3
          split at hd
          · unfold coin4 at hd
            split at hd
            · cases hd
            · split at hd
              · cases hd
              · split at hd
                · cases hd
                · rename_i x hx
                  split at hd
                  · cases hd
                  · rename_i y hy
                    split at hd
                    · cases hd
                    · split at hd
                      · cases hd
                      · split at hd
                        · cases hd
                        · split at hd
                          · cases hd
                          · cases hd
                            exact ⟨o0, o3, x, y, by simp, by simp, hx, hy, rfl, rfl⟩
          · cases hd
theorem drawA_calm : DrawCalm drawA := by
  intro c app sz ops e h e' h' hc hd
  unfold drawA at hd
  split at hd
  · split at hd
    · rename_i e1 h1 hco
      cases hd
      obtain ⟨o0, o3, x, y, m0, m3, hx, hy, rfl, rfl⟩ := coinA_spec hco
      refine ⟨⟨[h.nxt], rfl, fun i hi => ⟨rfl, rfl⟩⟩, fun t ht => ?_⟩
      have h1 := ht o0 m0
      have h2 := ht o3 m3
      rw [get_set_ne _ _ (fun q => h2 (by rw [hy, q])), get_set_ne _ _ (fun q => h1 (by rw [hx, q]))]
    · cases hd
  · rename_i L hp
    have hmem : ∀ s ∈ L, s.o ∈ ops := fun s hs => by
      have st := plan_static (ops := ops.toArray) (by simpa using hp)
      obtain ⟨m, hm⟩ := List.getElem?_of_mem hs
      have := (st.at_ m s hm).1
      have h2 : ops[s.i]? = some s.o := by simpa using this
      exact List.mem_of_getElem? h2
    obtain ⟨a1, a2⟩ := runPs_calm (fun s hs => calmOps_mem hc _ (hmem s hs)) hd
    exact ⟨a1, fun t ht => a2 t (fun s hs => ht _ (hmem s hs))⟩

end Go.Ax
