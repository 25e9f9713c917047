/-
  AxUb: two ways, joined.
-/
import Derived.Test.YtaopfnhkfedemaaGreatDoorAxUa
set_option linter.unusedVariables false
set_option linter.unusedSimpArgs false
namespace Go.Ax

/-! ## rows and blocks, joined -/
theorem cellsEq_ok {r s : Row} : ∀ {n : Nat}, cellsEq r s n = true → ∀ j, j < n → r.get j = s.get j
  | 0, _, j, hj => by omega
  | n + 1, h, j, hj => by
    have h' : (match avEq (r.get n) (s.get n) with | true => cellsEq r s n | false => false) = true := h
    split at h'
    · rename_i hq
      by_cases e : j = n
      · subst e; exact avEq_eq hq
      · exact cellsEq_ok h' j (by omega)
    · cases h'
theorem rowEq_ok {r s : Row} (h : rowEq r s = true) : RowSame r s := by
  unfold rowEq at h
  split at h
  · cases h
  · rename_i ht
    split at h
    · cases h
    · rename_i hn
      exact ⟨beqT ht, beqT hn, cellsEq_ok h⟩
theorem RowSame.symm {r s : Row} (h : RowSame r s) : RowSame s r := ⟨h.1.symm, h.2.1.symm, fun j hj => (h.2.2 j (by rw [h.2.1]; exact hj)).symm⟩
theorem aloneOk_ok {x y : Option Nat} {i : Nat} (h : aloneOk x y i = true) : x = none ∧ y = some i := by
  unfold aloneOk at h
  cases x with
  | some a => cases h
  | none =>
    refine ⟨rfl, ?_⟩
    simp only [isNoneN] at h
    cases y with
    | none => cases h
    | some t => rw [beqT h]
theorem tipJoin_ok (x y : Option Nat) : tipJoin x y = none ∨ (tipJoin x y = x ∧ x = y) := by
  unfold tipJoin
  cases h : optEqN x y with
  | false => exact .inl rfl
  | true => exact .inr ⟨rfl, optEqN_eq h⟩
theorem tipJoin_none (y : Option Nat) : tipJoin none y = none := by
  rcases tipJoin_ok none y with h | ⟨h, _⟩ <;> exact h
theorem tipJoin_none' (x : Option Nat) : tipJoin x none = none := by
  rcases tipJoin_ok x none with h | ⟨h, h2⟩
  · exact h
  · rw [h, h2]

theorem joinL_spec {a b : Heap} : ∀ {l : List Nat} {h g : Heap}, joinL a b l h = some g →
    g.nxt = h.nxt ∧ (∀ i, i ∈ l → abJoin a b i (a.get i) (b.get i) = some (g.get i) ∧ g.tip i = tipJoin (a.tip i) (b.tip i)) ∧ (∀ i, i ∉ l → g.get i = h.get i ∧ g.tip i = h.tip i)
  | [], h, g, e => by cases e; exact ⟨rfl, fun i hi => (by cases hi), fun _ _ => ⟨rfl, rfl⟩⟩
  | i :: l, h, g, e => by
    have e' : (match abJoin a b i (a.get i) (b.get i) with
      | some x => joinL a b l ⟨h.nxt, h.blk.set .none i x, h.tips.set none i (tipJoin (a.tip i) (b.tip i)), i :: h.log⟩
      | none => none) = some g := e
    split at e'
    · rename_i x hx
      obtain ⟨h1, h2, h3⟩ := joinL_spec e'
      have gi : ∀ j, (⟨h.nxt, h.blk.set .none i x, h.tips.set none i (tipJoin (a.tip i) (b.tip i)), i :: h.log⟩ : Heap).get j = if j = i then x else h.get j := fun j => get_set _ _ _ _ _
      have ti : ∀ j, (⟨h.nxt, h.blk.set .none i x, h.tips.set none i (tipJoin (a.tip i) (b.tip i)), i :: h.log⟩ : Heap).tip j = if j = i then tipJoin (a.tip i) (b.tip i) else h.tip j := fun j => get_set _ _ _ _ _
      refine ⟨h1, fun j hj => ?_, fun j hj => ?_⟩
      · by_cases hl : j ∈ l
        · exact h2 j hl
        · rcases List.mem_cons.1 hj with rfl | hj
          · obtain ⟨q1, q2⟩ := h3 j hl
            rw [gi, if_pos rfl] at q1
            rw [ti, if_pos rfl] at q2
            exact ⟨by rw [q1]; exact hx, q2⟩
          · exact absurd hj hl
      · simp only [List.mem_cons, not_or] at hj
        obtain ⟨q1, q2⟩ := h3 j hj.2
        rw [gi, if_neg hj.1] at q1
        rw [ti, if_neg hj.1] at q2
        exact ⟨q1, q2⟩
    · cases e'

theorem joinH_weak {h a b g : Heap} (la : Logged h.unlog a) (lb : Logged h.unlog b) (e : joinH h a b = some g) : Weak g a ∧ Weak g b := by
  unfold joinH at e
  split at e
  · rename_i hn
    have hn := beqT hn
    obtain ⟨h1, h2, h3⟩ := joinL_spec e
    obtain ⟨l1, a1, a2⟩ := la
    obtain ⟨l2, b1, b2⟩ := lb
    have al : a.log = l1 := by rw [a1]; simp [Heap.unlog]
    have bl : b.log = l2 := by rw [b1]; simp [Heap.unlog]
    have far : ∀ i, i ∉ a.log ++ b.log → g.get i = a.get i ∧ g.get i = b.get i ∧ g.tip i = a.tip i ∧ g.tip i = b.tip i := fun i hi => by
      obtain ⟨q1, q2⟩ := h3 i hi
      simp only [List.mem_append, not_or, al, bl] at hi
      obtain ⟨r1, r2⟩ := a2 i hi.1
      obtain ⟨s1, s2⟩ := b2 i hi.2
      exact ⟨q1.trans r1.symm, q1.trans s1.symm, q2.trans r2.symm, q2.trans s2.symm⟩
    have tips : ∀ q, g.tip q = none ∨ (g.tip q = a.tip q ∧ g.tip q = b.tip q) := fun q => by
      by_cases hq : q ∈ a.log ++ b.log
      · rw [(h2 q hq).2]
        rcases tipJoin_ok (a.tip q) (b.tip q) with t | ⟨t, t2⟩
        · exact .inl t
        · exact .inr ⟨t, t.trans t2⟩
      · exact .inr ⟨(far q hq).2.2.1, (far q hq).2.2.2⟩
    have tnone : ∀ q, a.tip q = none ∨ b.tip q = none → g.tip q = none := fun q hq => by
      rcases tips q with t | ⟨t1, t2⟩
      · exact t
      · rcases hq with hq | hq
        · rw [t1]; exact hq
        · rw [t2]; exact hq
    have key : ∀ i, BlkLe g a i ∧ BlkLe g b i := fun i => by
      by_cases hi : i ∈ a.log ++ b.log
      · have hj := (h2 i hi).1
        unfold abJoin at hj
        split at hj
        · rename_i hga
          split at hj
          · rename_i hgb
            have hg : g.get i = .none := (Option.some.inj hj).symm
            exact ⟨.inl ⟨hg, fun s q q1 => by rw [hga] at q1; cases q1⟩, .inl ⟨hg, fun s q q1 => by rw [hgb] at q1; cases q1⟩⟩
          · rename_i s hgb
            split at hj
            · rename_i hsr
              have hg : g.get i = .none := (Option.some.inj hj).symm
              exact ⟨.inl ⟨hg, fun s q q1 => by rw [hga] at q1; cases q1⟩, .inl ⟨hg, fun s' q q1 q2 => by rw [hgb] at q1; cases q1; rw [hsr] at q2; cases q2⟩⟩
            · cases hj
          · cases hj
        · rename_i r hga
          split at hj
          · rename_i s hgb
            unfold rowJoin at hj
            split at hj
            · rename_i hre
              have hs := rowEq_ok hre
              split at hj
              · rename_i hr
                split at hj
                · rename_i hsr
                  have hg : g.get i = .row r := (Option.some.inj hj).symm
                  exact ⟨.inr (.inr ⟨r, r, hg, hga, RowSame.refl r, .inl rfl⟩), .inr (.inr ⟨r, s, hg, hgb, hs, .inl (by rw [hr, hsr])⟩)⟩
                · rename_i q hsr
                  split at hj
                  · rename_i hal
                    obtain ⟨t1, t2⟩ := aloneOk_ok hal
                    have hg : g.get i = .row r := (Option.some.inj hj).symm
                    exact ⟨.inr (.inr ⟨r, r, hg, hga, RowSame.refl r, .inl rfl⟩), .inr (.inr ⟨r, s, hg, hgb, hs, .inr ⟨hr, q, hsr, tnone q (.inl t1), t2⟩⟩)⟩
                  · cases hj
              · rename_i p hr
                split at hj
                · rename_i hsr
                  split at hj
                  · rename_i hal
                    obtain ⟨t1, t2⟩ := aloneOk_ok hal
                    have hg : g.get i = .row s := (Option.some.inj hj).symm
                    exact ⟨.inr (.inr ⟨s, r, hg, hga, hs.symm, .inr ⟨hsr, p, hr, tnone p (.inr t1), t2⟩⟩), .inr (.inr ⟨s, s, hg, hgb, RowSame.refl s, .inl rfl⟩)⟩
                  · cases hj
                · rename_i q hsr
                  split at hj
                  · rename_i hpq
                    have hpq := beqT hpq
                    have hg : g.get i = .row r := (Option.some.inj hj).symm
                    exact ⟨.inr (.inr ⟨r, r, hg, hga, RowSame.refl r, .inl rfl⟩), .inr (.inr ⟨r, s, hg, hgb, hs, .inl (by rw [hr, hsr, hpq])⟩)⟩
                  · cases hj
            · split at hj
              · rename_i hr
                split at hj
                · rename_i hsr
                  have hg : g.get i = .none := (Option.some.inj hj).symm
                  exact ⟨.inl ⟨hg, fun s' q q1 q2 => by rw [hga] at q1; cases q1; rw [hr] at q2; cases q2⟩, .inl ⟨hg, fun s' q q1 q2 => by rw [hgb] at q1; cases q1; rw [hsr] at q2; cases q2⟩⟩
                · cases hj
              · cases hj
          · rename_i hgb
            split at hj
            · rename_i hr
              have hg : g.get i = .none := (Option.some.inj hj).symm
              exact ⟨.inl ⟨hg, fun s' q q1 q2 => by rw [hga] at q1; cases q1; rw [hr] at q2; cases q2⟩, .inl ⟨hg, fun s' q q1 q2 => by rw [hgb] at q1; cases q1⟩⟩
            · cases hj
          · cases hj
        · cases hj
      · exact ⟨.inr (.inl (far i hi).1), .inr (.inl (far i hi).2.1)⟩
    have gls : (∀ i r, a.get i = .gl r → g.get i = .gl r) ∧ ∀ i r, b.get i = .gl r → g.get i = .gl r := by
      refine ⟨fun i r q => ?_, fun i r q => ?_⟩
      · by_cases hi : i ∈ a.log ++ b.log
        · have hj := (h2 i hi).1
          rw [q] at hj
          cases hj
        · rw [(far i hi).1]; exact q
      · by_cases hi : i ∈ a.log ++ b.log
        · have hj := (h2 i hi).1
          rw [q] at hj
          unfold abJoin at hj
          split at hj <;> cases hj
        · rw [(far i hi).2.1]; exact q
    refine ⟨⟨⟨h1, fun i => (key i).1, fun q => ?_⟩, gls.1⟩, ⟨⟨h1.trans hn, fun i => (key i).2, fun q => ?_⟩, gls.2⟩⟩
    · rcases tips q with t | ⟨t, _⟩
      · exact .inl t
      · exact .inr t
    · rcases tips q with t | ⟨_, t⟩
      · exact .inl t
      · exact .inr t
  · cases e

theorem joinE_get (a b : T AV) : ∀ (l : List Nat) (e : T AV) (t : Nat), (joinE a b l e).get und t = if t ∈ l then (match avEq (a.get und t) (b.get und t) with | true => a.get und t | false => .bad) else e.get und t
  | [], e, t => by simp; rfl
  | d :: l, e, t => by
    rw [show joinE a b (d :: l) e = joinE a b l (e.set und d (match avEq (a.get und d) (b.get und d) with | true => a.get und d | false => .bad)) from rfl, joinE_get a b l]
    by_cases h : t ∈ l
    · rw [if_pos h, if_pos (List.mem_cons_of_mem _ h)]
    · rw [if_neg h, get_set]
      by_cases hd : t = d
      · subst hd; rw [if_pos rfl, if_pos List.mem_cons_self]
      · rw [if_neg hd, if_neg (by simp [h, hd])]

/-! ## a code of few operations -/
theorem setD_get {e e' : T AV} {d : Option Tmp} {v : AV} {sz : Nat} {h h' : Heap} (q : setD e d v sz h = .ok e' h') : h' = h ∧ ∀ t, d ≠ some t → e'.get und t = e.get und t := by
  unfold setD at q
  split at q
  · cases q; exact ⟨rfl, fun _ _ => rfl⟩
  · rename_i d
    split at q
    · cases q; exact ⟨rfl, fun t ht => get_set_ne _ _ (fun k => ht (by rw [k])) _⟩
    · cases q
theorem stepA_calm {c : Ctx} {app : App} {sz : Nat} {ops : List Oper} {o : Oper} {e e' : T AV} {h h' : Heap} (hc : calmOp o.op = true) (q : stepA c app sz ops o e h = .ok e' h') :
    Logged h h' ∧ ∀ t, o.dst ≠ some t → e'.get und t = e.get und t := by
  unfold stepA at q
  split at q
  · cases q
  · obtain ⟨rfl, h2⟩ := setD_get q
    exact ⟨Logged.refl _, h2⟩
  · split at q
    · cases q
    · rename_i v h1 hop
      obtain ⟨rfl, h2⟩ := setD_get q
      exact ⟨Logged.opA hc hop, h2⟩
    · rename_i t args h1 hop
      exact (calm_noGo hc hop).elim
theorem regDsts_mem {ops : List Oper} {t : Nat} : ∀ {r : List Nat}, t ∈ regDsts ops r ↔ t ∈ r ∨ ∃ o ∈ ops, o.dst = some t := by
  induction ops with
  | nil => intro r; simp [show regDsts [] r = r from rfl]
  | cons o ops ih =>
    intro r
    have e : regDsts (o :: ops) r = (match o.dst with | some d => d :: regDsts ops r | none => regDsts ops r) := rfl
    rw [e]
    cases hd : o.dst with
    | none =>
      simp only []
      rw [ih]
      simp [hd]
    | some d =>
      simp only [List.mem_cons]
      rw [ih]
      constructor
      · rintro (h | h | ⟨x, h1, h2⟩)
        · exact .inr ⟨o, .inl rfl, by rw [hd, h]⟩
        · exact .inl h
        · exact .inr ⟨x, .inr h1, h2⟩
      · rintro (h | ⟨x, rfl | h1, h2⟩)
        · exact .inr (.inl h)
        · rw [hd] at h2; cases h2; exact .inl rfl
        · exact .inr (.inr ⟨x, h1, h2⟩)
theorem calmOps_mem : ∀ {ops : List Oper}, calmOps ops = true → ∀ o ∈ ops, calmOp o.op = true
  | [], _, o, ho => by cases ho
  | x :: ops, h, o, ho => by
    have h' : (match calmOp x.op with | true => calmOps ops | false => false) = true := h
    split at h'
    · rename_i hx
      rcases List.mem_cons.1 ho with rfl | ho
      · exact hx
      · exact calmOps_mem h' o ho
    · cases h'
theorem runOps_calm {c : Ctx} {app : App} {sz : Nat} {ops : List Oper} : ∀ {l : List Oper} {e e' : T AV} {h h' : Heap}, (∀ o ∈ l, calmOp o.op = true) → runOps c app sz ops l e h = .ok e' h' →
    Logged h h' ∧ ∀ t, (∀ o ∈ l, o.dst ≠ some t) → e'.get und t = e.get und t
  | [], e, e', h, h', hc, q => by cases q; exact ⟨Logged.refl _, fun _ _ => rfl⟩
  | o :: l, e, e', h, h', hc, q => by
    have q' : (match stepA c app sz ops o e h with | .ok e' h' => runOps c app sz ops l e' h' | .bad l => .bad l) = SR.ok e' h' := q
    split at q'
    · rename_i e1 h1 hs
      obtain ⟨a1, a2⟩ := stepA_calm (hc o List.mem_cons_self) hs
      obtain ⟨b1, b2⟩ := runOps_calm (fun x hx => hc x (List.mem_cons_of_mem _ hx)) q'
      exact ⟨a1.trans b1, fun t ht => (b2 t (fun x hx => ht x (List.mem_cons_of_mem _ hx))).trans (a2 t (ht o List.mem_cons_self))⟩
    · cases q'

/-- so does the way in which drawn regions are gone through -/
def DrawCalm (draw : DrawOk) : Prop :=
  ∀ c app sz (ops : List Oper) e h e' h', calmOps ops = true → draw c app sz ops e h = .ok e' h' → Logged h h' ∧ ∀ t, (∀ o ∈ ops, o.dst ≠ some t) → e'.get und t = e.get und t

theorem exec_calm {c : Ctx} {draw : DrawOk} (dc : DrawCalm draw) {app : App} {lim : Nat} {fn : FuncId} {sz : Nat} {rd : Option Nat} : ∀ {code : Code} {l : List Nat} {s s' : St} {x : Ex}, calm code = some l →
    exec c draw app lim fn sz rd code s = .ok x s' → Logged s.h s'.h ∧ (∀ t, t ∉ l → s'.e.get und t = s.e.get und t) ∧ s'.m = s.m := by
  intro code
  induction code with
  | skip => intro l s s' x _ q; cases q; exact ⟨Logged.refl _, fun _ _ => rfl, rfl⟩
  | region id ops d =>
    intro l s s' x hc q
    have hc' : (match calmOps ops.toList with | true => some (regDsts ops.toList []) | false => none) = some l := hc
    split at hc'
    · rename_i hcm
      cases hc'
      have key : ∀ {e' : T AV} {h' : Heap}, (Logged s.h h' ∧ ∀ t, (∀ o ∈ ops.toList, o.dst ≠ some t) → e'.get und t = s.e.get und t) → Res.ok .normal ⟨e', h', s.m⟩ = Res.ok x s' →
          Logged s.h s'.h ∧ (∀ t, t ∉ regDsts ops.toList [] → s'.e.get und t = s.e.get und t) ∧ s'.m = s.m := fun a b => by
        cases b
        exact ⟨a.1, fun t ht => a.2 t (fun o ho hd => ht (regDsts_mem.2 (.inr ⟨o, ho, hd⟩))), rfl⟩
      cases d with
      | false =>
        have q' : (match runOps c app sz ops.toList ops.toList s.e s.h with
          | .ok e h => Res.ok .normal ⟨e, h, s.m⟩
          | .bad l => .bad l) = Res.ok x s' := q
        split at q'
        · rename_i e1 h1 hr
          exact key (runOps_calm (calmOps_mem hcm) hr) q'
        · cases q'
      | true =>
        have q' : (match draw c app sz ops.toList s.e s.h with
          | .ok e h => Res.ok .normal ⟨e, h, s.m⟩
          | .bad l => .bad l) = Res.ok x s' := q
        split at q'
        · rename_i e1 h1 hr
          exact key (dc _ _ _ _ _ _ _ _ hcm hr) q'
        · cases q'
    · cases hc'
  | seq ca cb iha ihb =>
    intro l s s' x hc q
    have hc' : (match calm ca with | some l => (match calm cb with | some m => some (l ++ m) | none => none) | none => none) = some l := hc
    split at hc'
    · rename_i l1 h1
      split at hc'
      · rename_i l2 h2
        cases hc'
        have q' : (match exec c draw app lim fn sz rd ca s with
          | .ok x s1 => (match x with
            | .normal => exec c draw app lim fn sz rd cb s1
            | x => .ok x s1)
          | .bad l => .bad l) = Res.ok x s' := q
        split at q'
        · rename_i x1 s1 hs
          obtain ⟨a1, a2, a3⟩ := iha h1 hs
          split at q'
          · obtain ⟨b1, b2, b3⟩ := ihb h2 q'
            exact ⟨a1.trans b1, fun t ht => by
              simp only [List.mem_append, not_or] at ht
              exact (b2 t ht.2).trans (a2 t ht.1), b3.trans a3⟩
          · cases q'
            exact ⟨a1, fun t ht => by
              simp only [List.mem_append, not_or] at ht
              exact a2 t ht.1, a3⟩
        · cases q'
      · cases hc'
    · cases hc'
  | cond cx ca cb _ _ => intro l s s' x hc q; cases hc
  | block id ca _ => intro l s s' x hc q; cases hc
  | loop ca _ => intro l s s' x hc q; cases hc
  | rangeFunc f ps assign body _ _ => intro l s s' x hc q; cases hc
  | exit id => intro l s s' x hc q; cases hc
  | scope ca iha => intro l s s' x hc q; exact iha hc q
  | label l => intro l s s' x _ q; cases q; exact ⟨Logged.refl _, fun _ _ => rfl, rfl⟩
  | goto l => intro l s s' x hc q; cases hc
  | ret => intro l s s' x hc q; cases hc
  | refuse why => intro l s s' x hc q; cases hc
end Go.Ax
