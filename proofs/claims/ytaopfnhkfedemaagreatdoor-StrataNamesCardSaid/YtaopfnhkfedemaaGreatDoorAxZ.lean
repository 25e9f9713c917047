/-
  AxZ: a region that draws its order comes to what its plan comes to.
-/
import Derived.Test.YtaopfnhkfedemaaGreatDoorAxY
set_option linter.unusedVariables false
set_option linter.unusedSimpArgs false
namespace Go.Ax

/-! ## maps cut off -/
def cut (σ : Map) (x : Nat) : Map := fun i => if i < x then σ i else none
theorem cut_mono (σ : Map) {x y : Nat} (h : x ≤ y) : Sub (cut σ x) (cut σ y) := fun i p e => by
  unfold cut at *
  by_cases hi : i < x
  · rw [if_pos hi] at e; rw [if_pos (by omega)]; exact e
  · rw [if_neg hi] at e; cases e
theorem cut_sub (σ : Map) (x : Nat) : Sub (cut σ x) σ := fun i p e => by
  unfold cut at e
  by_cases hi : i < x
  · rw [if_pos hi] at e; exact e
  · rw [if_neg hi] at e; cases e
theorem cut_sub2 {σ τ : Map} (h : Sub σ τ) (x : Nat) : Sub (cut σ x) (cut τ x) := fun i p e => by
  unfold cut at *
  by_cases hi : i < x
  · rw [if_pos hi] at *; exact h i p e
  · rw [if_neg hi] at e; cases e
theorem cut_lt {σ : Map} {x i : Nat} (h : i < x) : cut σ x i = σ i := by unfold cut; rw [if_pos h]
theorem cut_ge {σ : Map} {x i : Nat} (h : x ≤ i) : cut σ x i = none := by unfold cut; rw [if_neg (by omega)]

/-! ## masks -/
theorem maskOf_spec (ms : List Nat) (j : Nat) : ∀ es : List Edge, bitB (maskOf ms es) j = true ↔ ∃ ed ∈ es, edgeB ed = true ∧ (j = ed.on ∨ bitB (nat0 (nth ms ed.on)) j = true)
  | [] => by
    rw [show maskOf ms [] = 0 from rfl, bit_zero]; simp
  | e :: es => by
    rw [show maskOf ms (e :: es) = (match edgeB e with | true => orB (orB (bit1 e.on) (nat0 (nth ms e.on))) (maskOf ms es) | false => maskOf ms es) from rfl]
    cases he : edgeB e with
    | false =>
      simp only []
      rw [maskOf_spec ms j es]
      constructor
      · rintro ⟨ed, h1, h2⟩; exact ⟨ed, List.mem_cons_of_mem _ h1, h2⟩
      · rintro ⟨ed, h1, h2, h3⟩
        rcases List.mem_cons.1 h1 with rfl | h1
        · rw [he] at h2; cases h2
        · exact ⟨ed, h1, h2, h3⟩
    | true =>
      simp only []
      rw [bit_or, bit_or, bit_one, Bool.or_eq_true, Bool.or_eq_true, decide_eq_true_eq, maskOf_spec ms j es]
      constructor
      · rintro ((h | h) | ⟨ed, h1, h2⟩)
        · exact ⟨e, List.mem_cons_self, he, .inl h⟩
        · exact ⟨e, List.mem_cons_self, he, .inr h⟩
        · exact ⟨ed, List.mem_cons_of_mem _ h1, h2⟩
      · rintro ⟨ed, h1, h2, h3⟩
        rcases List.mem_cons.1 h1 with rfl | h1
        · rcases h3 with h3 | h3
          · exact .inl (.inl h3)
          · exact .inl (.inr h3)
        · exact .inr ⟨ed, h1, h2, h3⟩

theorem masks_cons (o : Oper) (l : List Oper) (ms : List Nat) : masks (o :: l) ms = masks l (ms ++ [maskOf ms o.after.toList]) := rfl
theorem masks_pre : ∀ (l : List Oper) (ms : List Nat), ∃ r, masks l ms = ms ++ r
  | [], ms => ⟨[], by rw [List.append_nil]; rfl⟩
  | o :: l, ms => by
    obtain ⟨r, h⟩ := masks_pre l (ms ++ [maskOf ms o.after.toList])
    exact ⟨[maskOf ms o.after.toList] ++ r, by rw [masks_cons, h, List.append_assoc]⟩
theorem masks_at : ∀ (l : List Oper) (ms : List Nat) (i : Nat) (o : Oper), l[i]? = some o → ∃ n r, masks l ms = n ++ r ∧ n.length = ms.length + i ∧ (masks l ms)[ms.length + i]? = some (maskOf n o.after.toList)
  | [], ms, i, o, h => by simp at h
  | x :: l, ms, 0, o, h => by
    simp at h; subst h
    obtain ⟨r, hr⟩ := masks_pre l (ms ++ [maskOf ms x.after.toList])
    refine ⟨ms, [maskOf ms x.after.toList] ++ r, by rw [masks_cons, hr, List.append_assoc], rfl, ?_⟩
    rw [masks_cons, hr, List.append_assoc, Nat.add_zero]
    simp
  | x :: l, ms, i + 1, o, h => by
    simp at h
    obtain ⟨n, r, h1, h2, h3⟩ := masks_at l (ms ++ [maskOf ms x.after.toList]) i o h
    refine ⟨n, r, by rw [masks_cons]; exact h1, by rw [h2]; simp; omega, ?_⟩
    rw [masks_cons, ← h3]
    congr 1
    simp; omega

/-! ## what is known of a plan -/
def doneM (L : List PStep) (m : Nat) : Nat := (L.take m).foldl (fun d s => orB d (bit1 s.i)) 0
theorem foldl_bits (L : List PStep) : ∀ d j, bitB (L.foldl (fun d s => orB d (bit1 s.i)) d) j = true ↔ bitB d j = true ∨ ∃ s ∈ L, s.i = j := by
  induction L with
  | nil => intro d j; simp
  | cons s L ih =>
    intro d j
    rw [List.foldl_cons, ih, bit_or, bit_one, Bool.or_eq_true, decide_eq_true_eq]
    constructor
    · rintro ((h | h) | ⟨x, h1, h2⟩)
      · exact .inl h
      · exact .inr ⟨s, List.mem_cons_self, h.symm⟩
      · exact .inr ⟨x, List.mem_cons_of_mem _ h1, h2⟩
    · rintro (h | ⟨x, h1, h2⟩)
      · exact .inl (.inl h)
      · rcases List.mem_cons.1 h1 with rfl | h1
        · exact .inl (.inr h2.symm)
        · exact .inr ⟨x, h1, h2⟩
theorem doneM_spec (L : List PStep) (m j : Nat) : bitB (doneM L m) j = true ↔ ∃ m' s, m' < m ∧ L[m']? = some s ∧ s.i = j := by
  unfold doneM
  rw [foldl_bits, bit_zero]
  constructor
  · rintro (h | ⟨s, h1, h2⟩)
    · cases h
    · obtain ⟨i, hi⟩ := List.getElem?_of_mem h1
      rw [List.getElem?_take] at hi
      split at hi
      · exact ⟨i, s, by assumption, hi, h2⟩
      · cases hi
  · rintro ⟨m', s, h1, h2, h3⟩
    refine .inr ⟨s, ?_, h3⟩
    apply List.mem_of_getElem? (i := m')
    rw [List.getElem?_take, if_pos h1]; exact h2

structure Static (c : Ctx) (ops : Array Oper) (ms : List Nat) (wr : T (Option Nat)) (L : List PStep) : Prop where
  at_ : ∀ (m : Nat) (s : PStep), L[m]? = some s → ops[s.i]? = some s.o ∧ nth ms s.i = some s.pm ∧ s.cl = cls c s.o.op
  ok : ∀ (m : Nat) (s : PStep), L[m]? = some s → stepOk ops.toList ms wr s (doneM L m) = true
  cover : ∀ i, i < ops.size → ∃ (m : Nat) (s : PStep), L[m]? = some s ∧ s.i = i
  mask : ∀ (i : Nat) (o : Oper) (pm : Nat), ops[i]? = some o → nth ms i = some pm → ∀ j, bitB pm j = true → ∃ ed ∈ o.after, Region.binds .any ed = true ∧ (j = ed.on ∨ bitB (nat0 (nth ms ed.on)) j = true)
  mask2 : ∀ (i : Nat) (o : Oper) (pm : Nat), ops[i]? = some o → nth ms i = some pm → ∀ ed ∈ o.after, Region.binds .any ed = true → bitB pm ed.on = true

theorem stepsOf_spec {c : Ctx} {ops : List Oper} {ms : List Nat} : ∀ {l : List Nat} {L : List PStep}, stepsOf c ops ms l = some L → ∀ s ∈ L, nth ops s.i = some s.o ∧ nth ms s.i = some s.pm ∧ s.cl = cls c s.o.op
  | [], L, h, s, hs => by cases h; cases hs
  | i :: l, L, h, s, hs => by
    have h' : (match nth ops i with
      | some o => (match nth ms i with
        | some pm => (match stepsOf c ops ms l with | some r => some (⟨i, o, cls c o.op, pm⟩ :: r) | none => none)
        | none => none)
      | none => none) = some L := h
    cases h1 : nth ops i with
    | none => rw [h1] at h'; cases h'
    | some o =>
      rw [h1] at h'
      simp only [] at h'
      cases h2 : nth ms i with
      | none => rw [h2] at h'; cases h'
      | some pm =>
        rw [h2] at h'
        simp only [] at h'
        cases h3 : stepsOf c ops ms l with
        | none => rw [h3] at h'; cases h'
        | some r =>
          rw [h3] at h'; cases h'
          rcases List.mem_cons.1 hs with rfl | hs
          · exact ⟨h1, h2, rfl⟩
          · exact stepsOf_spec h3 s hs

theorem planOk_spec {ops : List Oper} {ms : List Nat} {wr : T (Option Nat)} {all : Nat} : ∀ {L : List PStep} {d : Nat}, planOk ops ms wr all L d = true →
    (∀ m s, L[m]? = some s → stepOk ops ms wr s ((L.take m).foldl (fun d s => orB d (bit1 s.i)) d) = true) ∧ L.foldl (fun d s => orB d (bit1 s.i)) d = all
  | [], d, h => ⟨fun m s e => by simp at e, beqT h⟩
  | s :: L, d, h => by
    have h' : (match stepOk ops ms wr s d with | true => planOk ops ms wr all L (orB d (bit1 s.i)) | false => false) = true := h
    split at h'
    · rename_i h0
      obtain ⟨h1, h2⟩ := planOk_spec h'
      refine ⟨fun m x e => ?_, h2⟩
      cases m with
      | zero => simp at e; subst e; exact h0
      | succ m => simp at e; simpa using h1 m x e
    · cases h'

theorem plan_static {c : Ctx} {ops : Array Oper} {L : List PStep} (h : plan c ops.toList = some L) : Static c ops (masks ops.toList []) (writers ops.toList .leaf 0) L := by
  unfold plan at h
  split at h
  · cases h
  · rename_i l hl
    split at h
    · rename_i hp
      cases h
      obtain ⟨h1, h2⟩ := planOk_spec hp
      have hat : ∀ i : Nat, ops.toList[i]? = ops[i]? := fun i => by simp
      have hmask : ∀ (i : Nat) o pm, ops[i]? = some o → nth (masks ops.toList []) i = some pm → ∃ n r, masks ops.toList [] = n ++ r ∧ pm = maskOf n o.after.toList := fun i o pm q1 q2 => by
        obtain ⟨n, r, a, b, d⟩ := masks_at ops.toList [] i o (by rw [hat]; exact q1)
        rw [nth_eq] at q2
        simp at d
        rw [q2] at d; cases d
        exact ⟨n, r, a, rfl⟩
      refine ⟨fun m s e => ?_, fun m s e => h1 m s e, fun i hi => ?_, fun i o pm q1 q2 j hj => ?_, fun i o pm q1 q2 ed he hb => ?_⟩
      · obtain ⟨a, b, d⟩ := stepsOf_spec hl s (List.mem_of_getElem? e)
        rw [nth_eq, hat] at a
        exact ⟨a, b, d⟩
      · have : bitB (L.foldl (fun d s => orB d (bit1 s.i)) 0) i = true := by
          rw [h2, bitB_eq]
          have e1 : Nat.pred (bit1 ops.toList.length) = 2 ^ ops.size - 1 := by
            unfold bit1
            rw [show Nat.shiftLeft 1 ops.toList.length = 1 <<< ops.toList.length from rfl, Nat.one_shiftLeft]
            simp [Nat.pred_eq_sub_one]
          rw [e1, Nat.testBit_two_pow_sub_one]
          simpa using hi
        rw [foldl_bits, bit_zero] at this
        rcases this with q | ⟨s, q1, q2⟩
        · cases q
        · obtain ⟨m, hm⟩ := List.getElem?_of_mem q1
          exact ⟨m, s, hm, q2⟩
      · obtain ⟨n, r, a, rfl⟩ := hmask i o pm q1 q2
        obtain ⟨ed, e1, e2, e3⟩ := (maskOf_spec n j _).1 hj
        refine ⟨ed, by simpa using e1, by rw [← edgeB_eq]; exact e2, ?_⟩
        rcases e3 with e3 | e3
        · exact .inl e3
        · right
          cases hn : nth n ed.on with
          | none => rw [hn, show nat0 none = 0 from rfl, bit_zero] at e3; cases e3
          | some y =>
            rw [hn] at e3
            have : nth (masks ops.toList []) ed.on = some y := by
              rw [a, nth_eq, List.getElem?_append_left (by rw [nth_eq] at hn; exact (List.getElem?_eq_some_iff.1 hn).1), ← nth_eq]; exact hn
            rw [this]; exact e3
      · obtain ⟨n, r, a, rfl⟩ := hmask i o pm q1 q2
        exact (maskOf_spec n ed.on _).2 ⟨ed, by simpa using he, by rw [edgeB_eq]; exact hb, .inl rfl⟩
    · cases h

/-! ## what a step comes to -/
structure Trace (c : Ctx) (app : App) (sz : Nat) (ops : Array Oper) (L : List PStep) where
  E : Nat → T AV
  H : Nat → Heap
  B : Nat → List (Heap × Nat)
  step : ∀ (m : Nat) (s : PStep), L[m]? = some s → runP c app sz ops.toList s (E m) (H m) (B m) = .ok (E (m + 1)) (H (m + 1)) (B (m + 1))

theorem trace_of {c : Ctx} {app : App} {sz : Nat} {ops : Array Oper} : ∀ {L : List PStep} {e e' : T AV} {h h' : Heap} {bs : List (Heap × Nat)}, runPs c app sz ops.toList L e h bs = .ok e' h' →
    ∃ t : Trace c app sz ops L, t.E 0 = e ∧ t.H 0 = h ∧ t.B 0 = bs ∧ t.E L.length = e' ∧ t.H L.length = h'
  | [], e, e', h, h', bs, q => by
    cases q
    exact ⟨⟨fun _ => e, fun _ => h, fun _ => bs, fun m s hs => by simp at hs⟩, rfl, rfl, rfl, rfl, rfl⟩
  | s :: L, e, e', h, h', bs, q => by
    have q' : (match runP c app sz ops.toList s e h bs with
      | .ok e' h' bs' => runPs c app sz ops.toList L e' h' bs'
      | .bad l => .bad l) = SR.ok e' h' := q
    cases hr : runP c app sz ops.toList s e h bs with
    | bad l => rw [hr] at q'; cases q'
    | ok e1 h1 b1 =>
      rw [hr] at q'
      obtain ⟨t, t1, t2, t3, t4, t5⟩ := trace_of q'
      refine ⟨⟨fun m => match m with | 0 => e | m + 1 => t.E m, fun m => match m with | 0 => h | m + 1 => t.H m, fun m => match m with | 0 => bs | m + 1 => t.B m, fun m x hx => ?_⟩, rfl, rfl, rfl, t4, t5⟩
      cases m with
      | zero => simp at hx; subst hx; simp only [t1, t2, t3]; exact hr
      | succ m => simp at hx; exact t.step m x hx

inductive StepRes (c : Ctx) (app : App) (ops : Array Oper) (s : PStep) (E : T AV) (H : Heap) (B : List (Heap × Nat)) (v : AV) (H' : Heap) (B' : List (Heap × Nat)) : Prop
  | un (h1 : wantA ops.toList E s.o = some false) (h2 : v = und) (h3 : H' = H) (h4 : B' = B)
  | pure (h1 : wantA ops.toList E s.o = some true) (h2 : s.cl = .pure) (h5 : ∃ h1, opA c E H s.o.op = some (.v v h1)) (h3 : H' = H) (h4 : B' = B)
  | light (h1 : wantA ops.toList E s.o = some true) (h2 : s.cl = .light) (h5 : lightV c E s B none = some v) (h3 : H' = H) (h4 : B' = B)
  | alloc (h1 : wantA ops.toList E s.o = some true) (h2 : s.cl = .alloc) (h5 : opA c E H s.o.op = some (.v v H')) (h4 : B' = B)
  | work (h1 : wantA ops.toList E s.o = some true) (h2 : s.cl = .work) (h5 : opR c app E H s.o.op = some (v, H')) (h3 : H.nxt ≤ H'.nxt) (h4 : B' = (H', s.i) :: B)

theorem setR_eq {e e' : T AV} {d : Option Tmp} {v : AV} {sz : Nat} {h h' : Heap} {bs bs' : List (Heap × Nat)} (q : setR e d v sz h bs = .ok e' h' bs') :
    h' = h ∧ bs' = bs ∧ (d = none → e' = e) ∧ (∀ t, d = some t → t < sz ∧ e' = e.set und t v) := by
  unfold setR at q
  cases d with
  | none => cases q; exact ⟨rfl, rfl, fun _ => rfl, fun t ht => by cases ht⟩
  | some d =>
    simp only [] at q
    split at q
    · rename_i hd
      cases q
      exact ⟨rfl, rfl, (fun k => by cases k), fun t ht => by cases ht; exact ⟨Nat.lt_of_succ_le (bleT hd), rfl⟩⟩
    · cases q

theorem runP_res {c : Ctx} {app : App} {sz : Nat} {ops : Array Oper} {s : PStep} {e e' : T AV} {h h' : Heap} {bs bs' : List (Heap × Nat)} (q : runP c app sz ops.toList s e h bs = .ok e' h' bs') :
    ∃ v, StepRes c app ops s e h bs v h' bs' ∧ (s.o.dst = none → e' = e) ∧ (∀ t, s.o.dst = some t → t < sz ∧ e' = e.set und t v) := by
  unfold runP at q
  split at q
  · cases q
  · rename_i hw
    obtain ⟨rfl, rfl, q3, q4⟩ := setR_eq q
    exact ⟨und, .un hw rfl rfl rfl, q3, q4⟩
  · rename_i hw
    cases hc : s.cl with
    | pure =>
      rw [hc] at q
      simp only [] at q
      split at q
      · rename_i v h1 ho
        obtain ⟨rfl, rfl, q3, q4⟩ := setR_eq q
        exact ⟨v, .pure hw hc ⟨_, ho⟩ rfl rfl, q3, q4⟩
      · cases q
    | light =>
      rw [hc] at q
      simp only [] at q
      split at q
      · rename_i v ho
        obtain ⟨rfl, rfl, q3, q4⟩ := setR_eq q
        exact ⟨v, .light hw hc ho rfl rfl, q3, q4⟩
      · cases q
    | alloc =>
      rw [hc] at q
      simp only [] at q
      split at q
      · rename_i v h1 ho
        obtain ⟨rfl, rfl, q3, q4⟩ := setR_eq q
        exact ⟨v, .alloc hw hc ho rfl, q3, q4⟩
      · cases q
    | work =>
      rw [hc] at q
      simp only [] at q
      split at q
      · cases q
      · rename_i v h1 ho
        split at q
        · rename_i hn
          obtain ⟨rfl, rfl, q3, q4⟩ := setR_eq q
          exact ⟨v, .work hw hc (by unfold opR; rw [ho]) (bleT hn) rfl, q3, q4⟩
        · cases q
      · rename_i t args h1 ho
        split at q
        · rename_i v h2 hap
          split at q
          · rename_i hn
            obtain ⟨rfl, rfl, q3, q4⟩ := setR_eq q
            exact ⟨v, .work hw hc (by unfold opR; rw [ho]; simp only [hap]) (bleT hn) rfl, q3, q4⟩
          · cases q
        · cases q

theorem lightV_spec {c : Ctx} {e : T AV} {s : PStep} : ∀ {bs : List (Heap × Nat)} {p : Option AV} {v : AV}, lightV c e s bs p = some v → (∀ u, p = some u → u = v) ∧
    ∀ pre g j post, bs = pre ++ (g, j) :: post → (∀ x ∈ pre, bitB s.pm x.2 = false) → ∃ g', opA c e g s.o.op = some (.v v g')
  | [], p, v, q => by
    have q' : p = some v := q
    subst q'
    exact ⟨fun u k => by cases k; rfl, fun pre g j post k => by simp at k⟩
  | (g0, j0) :: bs, p, v, q => by
    have q' : (match opA c e g0 s.o.op with
      | some (.v v _) => (match agree p v with
        | true => (match bitB s.pm j0 with | true => some v | false => lightV c e s bs (some v))
        | false => none)
      | _ => none) = some v := q
    split at q'
    · rename_i v0 h0 ho
      split at q'
      · rename_i hag
        have hp : ∀ u, p = some u → u = v0 := fun u hu => by
          subst hu; exact avEq_eq hag
        split at q'
        · rename_i hb
          cases q'
          refine ⟨hp, fun pre g j post k hk => ?_⟩
          cases pre with
          | nil => simp at k; obtain ⟨⟨rfl, rfl⟩, rfl⟩ := k; exact ⟨_, ho⟩
          | cons x pre =>
            simp at k
            have := hk x List.mem_cons_self
            rw [← k.1] at this
            rw [hb] at this; cases this
        · rename_i hb
          obtain ⟨h1, h2⟩ := lightV_spec q'
          have hv : v0 = v := h1 v0 rfl
          subst hv
          refine ⟨hp, fun pre g j post k hk => ?_⟩
          cases pre with
          | nil => simp at k; obtain ⟨⟨rfl, rfl⟩, rfl⟩ := k; exact ⟨_, ho⟩
          | cons x pre =>
            simp at k
            exact h2 pre g j post k.2 (fun y hy => hk y (List.mem_cons_of_mem _ hy))
      · cases q'
    · cases q'

end Go.Ax
