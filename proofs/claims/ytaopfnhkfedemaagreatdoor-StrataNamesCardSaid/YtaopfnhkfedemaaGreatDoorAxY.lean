/-
  AxY: what an operation hangs on, by its class; a block that is there already is taken in.
-/
import Derived.Test.YtaopfnhkfedemaaGreatDoorAxX
set_option linter.unusedVariables false
set_option linter.unusedSimpArgs false
namespace Go.Ax

/-! ## an operation hangs on its operands -/
theorem evo_congr {e e' : T AV} (x : Option Operand) (H : ∀ y ∈ x, ev e y = ev e' y) : evo e x = evo e' x := by
  cases x with
  | none => rfl
  | some x => simp only [evo, H x rfl]
theorem parts_congr {e e' : T AV} (ps : Array (Nat × Operand)) (H : ∀ x ∈ (ps.toList.map (·.2)), ev e x = ev e' x) : parts e ps = parts e' ps := by
  unfold parts
  apply List.map_congr_left
  intro p hp
  rw [H p.2 (List.mem_map_of_mem hp)]
theorem evs_congr {e e' : T AV} (l : Array Operand) (H : ∀ x ∈ l.toList, ev e x = ev e' x) : l.toList.map (ev e) = l.toList.map (ev e') := List.map_congr_left H

theorem opA_congr {c : Ctx} {e e' : T AV} {h : Heap} (o : Op) (H : ∀ x ∈ o.operands.toList, ev e x = ev e' x) : opA c e h o = opA c e' h o := by
  cases o <;> simp only [opA]
  case build t ps => rw [parts_congr ps (fun x hx => H x (by simpa [Op.operands] using hx))]
  case buildSlice t n ps => rw [parts_congr ps (fun x hx => H x (by simpa [Op.operands] using hx))]
  case makeFunc f a b =>
    have h1 := evs_congr a (fun x hx => H x (by simp only [Op.operands]; simp at hx ⊢; exact .inl hx))
    have h2 := evs_congr b (fun x hx => H x (by simp only [Op.operands]; simp at hx ⊢; exact .inr hx))
    rw [h1, h2]
  case makeMap t r =>
    rw [evo_congr r (fun y hy => H y (by cases r <;> simp_all [Op.operands]))]
  case slice t x lo hi mx =>
    rw [H x (by simp [Op.operands]), evo_congr lo (fun y hy => H y (by cases lo <;> simp_all [Op.operands])), evo_congr hi (fun y hy => H y (by cases hi <;> simp_all [Op.operands])), evo_congr mx (fun y hy => H y (by cases mx <;> simp_all [Op.operands]))]
  case call cl =>
    unfold oCall
    cases hc : cl.callee with
    | builtin b => simp only []; rw [evs_congr cl.args (fun x hx => H x (by simp [Op.operands, Call.operands, hc]; simpa using hx))]
    | value f =>
      simp only []
      rw [H f (by simp [Op.operands, Call.operands, hc]), evs_congr cl.args (fun x hx => H x (by simp [Op.operands, Call.operands, hc]; simp at hx; exact .inr hx))]
    | invoke r m => rfl
  all_goals first
    | rfl
    | (simp [Op.operands] at H; simp only [H])

/-! ## pure, light, alloc -/
theorem pure_spec {c : Ctx} {e : T AV} {h h' : Heap} {o : Op} {v : AV} (hc : cls c o = .pure) (he : opA c e h o = some (.v v h')) : h' = h ∧ ∀ g, opA c e g o = some (.v v g) := by
  cases o <;> simp only [cls] at hc <;> try (cases hc; done)
  case convert s t x => split at hc <;> (try split at hc) <;> cases hc
  case call k =>
    cases hk : k.callee with
    | builtin b =>
      rw [hk] at hc
      simp only [opA, oCall, hk] at he ⊢
      cases b <;> simp only [] at hc <;> try (cases hc; done)
      all_goals
        simp only [oBuiltin] at he ⊢
        repeat' (split at he)
        all_goals first
          | (cases he; done)
          | (cases he; exact ⟨rfl, fun g => by simp only [*]⟩)
    | value f => rw [hk] at hc; cases hc
    | invoke f m => rw [hk] at hc; cases hc
  case pick b x y =>
    simp only [opA] at he ⊢
    split at he
    · rename_i bb hb; cases he; exact ⟨rfl, fun g => rfl⟩
    · cases he
  case makeFunc f a b =>
    simp only [opA] at he ⊢
    split at he
    · cases he; exact ⟨rfl, fun g => rfl⟩
    · cases he
  all_goals
    simp only [opA] at he ⊢
    first
      | (cases he; exact ⟨rfl, fun g => rfl⟩)
      | (unfold val at he ⊢; split at he
         · rename_i w hw; cases he; exact ⟨rfl, fun g => by simp only [hw]⟩
         · cases he)

def HLe (g h : Heap) : Prop := (∀ i, g.get i ≠ .none → h.get i = g.get i) ∧ (∀ q v, g.tip q = some v → h.tip q = some v)
theorem HLe.refl (g : Heap) : HLe g g := ⟨fun _ _ => rfl, fun _ _ e => e⟩
theorem HLe.trans {a b d : Heap} (x : HLe a b) (y : HLe b d) : HLe a d := ⟨fun i e => by rw [y.1 i (by rw [x.1 i e]; exact e), x.1 i e], fun q v e => y.2 q v (x.2 q v e)⟩
theorem HLe.new {h : Heap} (wf : WF h) (b : AB) : HLe h (h.new b) := by
  refine ⟨fun i e => ?_, fun _ _ e => e⟩
  rw [Heap.get_new]
  by_cases hi : i = h.nxt
  · subst hi; exact absurd (wf.fresh _ (Nat.le_refl _)) e
  · rw [if_neg hi]
theorem HLe.row {g h : Heap} (x : HLe g h) {i : Nat} {r : Row} (e : g.row i = some r) : h.row i = some r := by
  obtain ⟨a, b⟩ := Heap.row_get e
  have h1 : h.get i = .row r := by rw [x.1 i (by rw [a]; simp), a]
  rw [Heap.row_of h1]
  rw [Heap.row_of a] at e
  cases hr : r.root with
  | none => rfl
  | some q =>
    rw [hr] at e
    simp only [] at e ⊢
    cases ht : g.tip q with
    | none => rw [ht] at e; cases e
    | some t => rw [x.2 q t ht]

theorem load_mono {c : Ctx} {g h : Heap} (x : HLe g h) {t : TypeId} {a v : AV} (e : oLoad c g t a = some v) : oLoad c h t a = some v := by
  unfold oLoad at e ⊢
  cases a with
  | ptr id off =>
    simp only [] at e ⊢
    cases hr : g.row id with
    | none => rw [hr] at e; cases e
    | some r => rw [x.row hr]; rw [hr] at e; exact e
  | gptr g' off =>
    simp only [] at e ⊢
    cases hr : glRow g g' with
    | none => rw [hr] at e; cases e
    | some r =>
      have : glRow h g' = some r := by
        unfold glRow at hr ⊢
        split at hr
        · rename_i s hs
          rw [x.1 g' (by rw [hs]; simp), hs]; exact hr
        · cases hr
      rw [this]; rw [hr] at e; exact e
  | _ => cases e
theorem get_mono {g h : Heap} (x : HLe g h) {i : Nat} {b : AB} (hb : b ≠ .none) (e : g.get i = b) : h.get i = b := by rw [x.1 i (by rw [e]; exact hb), e]

theorem len_mono {c : Ctx} {g h : Heap} (x : HLe g h) {t : TypeId} {y v : AV} (hu : oLen c g t y = some v) : oLen c h t y = some v := by
  unfold oLen at hu ⊢
  split at hu <;> try exact hu
  split at hu
  · split at hu
    · split at hu
      · rename_i es cl hg
        rw [get_mono x (by simp) hg]; exact hu
      · cases hu
    · cases hu
  · cases hu

theorem cutFar_mono {c : Ctx} {g h : Heap} (x : HLe g h) {t : TypeId} {a v : AV} {lo hi mx : Option AV} (e : cutFar c g t a lo hi mx = some v) : cutFar c h t a lo hi mx = some v := by
  cases a with
  | sl id off len cap z =>
    cases hr : g.row id with
    | none =>
      unfold cutFar at e
      simp only [hr] at e
      repeat' (split at e)
      all_goals cases e
    | some r =>
      have hr' := x.row hr
      unfold cutFar at e ⊢
      simp only [hr] at e
      simp only [hr']
      exact e
  | _ => cases e
theorem sliceH_mono {c : Ctx} {g h : Heap} (x : HLe g h) {t : TypeId} {a v : AV} {lo hi mx : Option AV} (e : oSliceH c g t a lo hi mx = some v) : oSliceH c h t a lo hi mx = some v := by
  unfold oSliceH at e ⊢
  split at e
  · exact e
  · exact cutFar_mono x e
theorem convToU_mono {c : Ctx} {g h : Heap} (x : HLe g h) {ds : TypeDesc} {a v : AV} (e : convToU c g ds a = some v) : convToU c h ds a = some v := by
  unfold convToU at e ⊢
  cases ds with
  | pointer el =>
    cases a with
    | ptr id off =>
      simp only [] at e ⊢
      cases hr : g.row id with
      | none => rw [hr] at e; cases e
      | some r => rw [x.row hr]; rw [hr] at e; exact e
    | _ => exact e
  | _ => cases e
theorem convToP_mono {c : Ctx} {g h : Heap} (x : HLe g h) {ds : TypeDesc} {u : TypeId} {a v : AV} (e : convToP c g ds u a = some v) : convToP c h ds u a = some v := by
  unfold convToP at e ⊢
  cases ds with
  | unsafePointer =>
    cases a with
    | ptr id off =>
      simp only [] at e ⊢
      cases hr : g.row id with
      | none => rw [hr] at e; cases e
      | some r => rw [x.row hr]; rw [hr] at e; exact e
    | _ => exact e
  | _ => cases e
theorem light_mono {c : Ctx} {e : T AV} {g g' h : Heap} (x : HLe g h) {o : Op} {v : AV} (hc : cls c o = .light) (he : opA c e g o = some (.v v g')) : opA c e h o = some (.v v h) := by
  cases o <;> simp only [cls] at hc <;> try (cases hc; done)
  case load t a =>
    simp only [opA] at he ⊢
    obtain ⟨q1, q2⟩ := val_eq he
    rw [load_mono x q1]; rfl
  case slice t a lo hi mx =>
    simp only [opA] at he ⊢
    obtain ⟨q1, q2⟩ := val_eq he
    have : oSliceH c h t (ev e a) (evo e lo) (evo e hi) (evo e mx) = some v := sliceH_mono x q1
    rw [this]; rfl
  case lookup t a b ok =>
    simp only [opA] at he ⊢
    obtain ⟨q1, q2⟩ := val_eq he
    have : oLookup c h t (ev e a) (ev e b) ok = some v := by
      unfold oLookup at q1 ⊢
      split at q1
      · split at q1
        · split at q1
          · cases q1
          · skip
            cases hl : lookFind g (ev e a) (ev e b) with
            | none => rw [hl] at q1; cases q1
            | some r =>
              have : lookFind h (ev e a) (ev e b) = some r := by
                unfold lookFind at hl ⊢
                split at hl
                · exact hl
                · rename_i id
                  split at hl
                  · rename_i es cl hg
                    rw [get_mono x (by simp) hg]; exact hl
                  · cases hl
                · cases hl
              rw [this]; rw [hl] at q1; exact q1
        · cases q1
      · cases q1
    rw [this]; rfl
  case entry a =>
    simp only [opA] at he ⊢
    obtain ⟨q1, q2⟩ := val_eq he
    have : oEntry h (ev e a) = some v := by
      unfold oEntry at q1 ⊢
      split at q1
      · split at q1
        · cases q1
        · skip
          split at q1
          · rename_i m s seen last hg
            rw [get_mono x (by simp) hg]
            simp only []
            split at q1
            · cases q1
            · rename_i m
              skip
              split at q1
              · rename_i es cl hg2
                rw [get_mono x (by simp) hg2]
                exact q1
              · cases q1
          · cases q1
      · cases q1
    rw [this]; rfl
  case convert s t a =>
    simp only [opA] at he ⊢
    have hq := valH_eq he
    have : oConvert c h s t (ev e a) = some (v, h) := by
      unfold oConvert at hq ⊢
      split at hq
      · cases hq
      · rename_i ds hds
        split at hq
        · cases hq
        · rename_i dt hdt
          rw [hdt] at hc
          split at hq
          · split at hq
            · cases hq; rfl
            · cases hq
          · split at hq
            · rename_i u hu
              rw [convToU_mono x hu]; cases hq; rfl
            · cases hq
          · split at hq
            · rename_i u hu
              rw [convToP_mono x hu]; cases hq; rfl
            · cases hq
          · split at hq
            · split at hq
              · cases hq; rfl
              · cases hq
            · split at hq
              · skip
                split at hq
                · split at hq
                  · split at hq
                    · cases hq; rfl
                    · cases hq; rfl
                    · split at hq
                      · skip
                        split at hq
                        · rename_i r hr
                          rw [x.row hr]
                          simp only []
                          split at hq
                          · skip
                            split at hq
                            · cases hq; rfl
                            · cases hq
                          · cases hq
                        · cases hq
                      · cases hq
                    · cases hq
                  · cases hq
                · cases hq
              · cases hq
            · cases hq
          · cases hc
          · cases hq
    rw [this]; rfl
  case call k =>
    cases hk : k.callee with
    | builtin b =>
      rw [hk] at hc
      simp only [opA, oCall, hk] at he ⊢
      cases b <;> simp only [] at hc <;> try (cases hc; done)
      simp only [oBuiltin] at he ⊢
      split at he
      · split at he
        · rename_i t ht
          skip
          split at he
          · rename_i u hu
            cases he
            rw [len_mono x hu]
          · cases he
        · cases he
      · cases he
    | value f => rw [hk] at hc; cases hc
    | invoke f m => rw [hk] at hc; cases hc

/-- a block that is new: no row of a chain, no package's variable -/
def AlOk (b : AB) : Prop := match b with | .row r => r.root = none | .gl _ => False | _ => True
theorem AlOk.row {b : AB} (h : AlOk b) : ∀ r, b = .row r → r.root = none := fun r e => by subst e; exact h
theorem AlOk.gl {b : AB} (h : AlOk b) : ∀ r, b ≠ .gl r := fun r e => by subst e; exact h
/-- one new block -/
def AllocOk (c : Ctx) (e : T AV) (h h' : Heap) (o : Op) (v : AV) : Prop :=
  ∃ b, h' = h.new b ∧ AlOk b ∧ b ≠ .none ∧ ∀ g, g.nxt = h.nxt → opA c e g o = some (.v v (g.new b))

theorem box_spec {h h' : Heap} {t : TypeId} {a v : AV} (e : oBox h t a = some (v, h')) : ∃ b, h' = h.new b ∧ AlOk b ∧ b ≠ .none ∧ ∀ g, g.nxt = h.nxt → oBox g t a = some (v, g.new b) := by
  unfold oBox at e ⊢
  cases a <;> simp only [] at e ⊢ <;> try (cases e; done)
  all_goals (cases e; exact ⟨_, rfl, (show AlOk _ from rfl), by simp, fun g hg => by simp only [hg]; rfl⟩)

theorem alloc_spec {c : Ctx} {e : T AV} {h h' : Heap} {o : Op} {v : AV} (hc : cls c o = .alloc) (he : opA c e h o = some (.v v h')) : AllocOk c e h h' o v := by
  unfold AllocOk
  cases o <;> simp only [cls] at hc <;> try (cases hc; done)
  case alloc t =>
    simp only [opA] at he ⊢
    have hq := valH_eq he
    unfold oAlloc at hq ⊢
    split at hq
    · obtain ⟨b, q1, q2, q3, q4⟩ := box_spec hq
      exact ⟨b, q1, q2, q3, fun g hg => by rw [q4 g hg]; rfl⟩
    · cases hq
  case box t x =>
    simp only [opA] at he ⊢
    obtain ⟨b, q1, q2, q3, q4⟩ := box_spec (valH_eq he)
    exact ⟨b, q1, q2, q3, fun g hg => by rw [q4 g hg]; rfl⟩
  case buildSlice t n ps =>
    simp only [opA] at he ⊢
    have hq := valH_eq he
    unfold oBuildSlice at hq ⊢
    repeat' (split at hq)
    all_goals first
      | (cases hq; done)
      | (cases hq; exact ⟨_, rfl, (show AlOk _ from rfl), by simp, fun g hg => by simp only [*]; rfl⟩)
  case makeSlice t l kk =>
    simp only [opA] at he ⊢
    have hq := valH_eq he
    unfold oMakeSlice at hq ⊢
    repeat' (split at hq)
    all_goals first
      | (cases hq; done)
      | (cases hq; exact ⟨_, rfl, (show AlOk _ from rfl), by simp, fun g hg => by simp only [*]; rfl⟩)
  case makeMap t r =>
    simp only [opA] at he ⊢
    have hq := valH_eq he
    unfold oMakeMap at hq ⊢
    repeat' (split at hq)
    all_goals first
      | (cases hq; done)
      | (cases hq; exact ⟨_, rfl, (show AlOk _ from trivial), by simp, fun g hg => by simp only [*]; rfl⟩)
  case convert s t a =>
    simp only [opA] at he ⊢
    have hq := valH_eq he
    unfold oConvert at hq ⊢
    split at hq
    · cases hq
    · rename_i ds hds
      split at hq
      · cases hq
      · rename_i dt hdt
        rw [hdt] at hc
        cases dt <;> simp only [] at hc hq ⊢ <;> try (cases hc; done)
        repeat' (split at hq)
        all_goals first
          | (cases hq; done)
          | (cases hq; exact ⟨_, rfl, (show AlOk _ from rfl), by simp, fun g hg => by simp only [*]; rfl⟩)
  case call k =>
    cases hk : k.callee with
    | builtin b => rw [hk] at hc; cases b <;> cases hc
    | value f => rw [hk] at hc; cases hc
    | invoke f m => rw [hk] at hc; cases hc

/-! ## the same value -/
/-! ## a world that has grown; a block that is taken in -/
theorem Good.adopt {ρ0 ρ : Map} {h0 h : Heap} {w0 w : World} (g : Good ρ0 h0 w0 ρ h w) (fr : ρ h.nxt = none) (b : AB) {B N : Nat} (hb : ∀ r, b = .row r → r.root = none) (hlt : B < w.heap.size) (hge : w0.heap.size ≤ B)
    (hun : ∀ j M, ρ j ≠ some (B, M)) (ha : ABR (upd ρ h.nxt (B, N)) b B N w) (hgl : ∀ r, b ≠ .gl r := by intro _ q; cases q) : Good ρ0 h0 w0 (upd ρ h.nxt (B, N)) (h.new b) w := by
  have hr := g.hr
  have wf := g.wf
  have hs : Sub ρ (upd ρ h.nxt (B, N)) := upd_sub fr
  have hg : ∀ j, j ≠ h.nxt → (h.new b).get j = h.get j := fun j k => by rw [Heap.get_new, if_neg k]
  have ho : ∀ j, j ≠ h.nxt → ((h.new b).ok j ↔ h.ok j) := fun j k => Heap.ok_same (hg j k) (fun _ _ _ _ => rfl)
  have hn : (h.new b).get h.nxt = b := by rw [Heap.get_new, if_pos rfl]
  have hnn := g.nxt
  refine { sub := g.sub.trans hs, hr := ⟨?_, ?_, ?_, ?_⟩, wf := ⟨?_, ?_, ?_, ?_⟩, nxt := Nat.le_succ_of_le g.nxt, dom := ?_, full := ?_, same := g.same, frame := g.frame, dead := ?_, newb := ?_, free := ?_, gl := fun j r q => (by rw [hg j (fun k => by subst k; have := g.gl _ r q; rw [wf.fresh _ (Nat.le_refl _)] at this; cases this)]; exact g.gl j r q), glw := g.glw }
  · intro i C M e
    by_cases k : i = h.nxt
    · subst k; rw [upd_same] at e; cases e; exact hlt
    · rw [upd_ne _ _ k] at e; exact hr.lt i C M e
  · intro i C M e k
    by_cases hi : i = h.nxt
    · subst hi; rw [upd_same] at e; cases e; rw [hn]; exact ha
    · rw [upd_ne _ _ hi] at e
      rw [hg i hi]
      exact (hr.ok i C M e ((ho i hi).1 k)).mono hs
  · intro i j C M M' hij e1 e2 k1 k2
    by_cases hi : i = h.nxt
    · subst hi; rw [upd_same] at e1; cases e1
      rw [upd_ne _ _ (Ne.symm hij)] at e2
      exact absurd e2 (hun j M')
    · by_cases hj : j = h.nxt
      · subst hj; rw [upd_same] at e2; cases e2
        rw [upd_ne _ _ hi] at e1
        exact absurd e1 (hun i M)
      · rw [upd_ne _ _ hi] at e1
        rw [upd_ne _ _ hj] at e2
        obtain ⟨r, s, q, a, b, d⟩ := hr.inj i j C M M' hij e1 e2 ((ho i hi).1 k1) ((ho j hj).1 k2)
        exact ⟨r, s, q, by rw [hg i hi]; exact a, by rw [hg j hj]; exact b, d⟩
  · intro i r e
    by_cases hi : i = h.nxt
    · subst hi; rw [hn] at e; exact absurd e (hgl r)
    · rw [hg i hi] at e
      obtain ⟨M, hM⟩ := hr.gl i r e
      exact ⟨M, hs i _ hM⟩
  · intro i hi
    have hi' : h.nxt + 1 ≤ i := hi
    rw [hg i (by omega)]; exact wf.fresh i (by omega)
  · intro i r q e1 e2
    by_cases hi : i = h.nxt
    · subst hi; rw [hn] at e1; rw [hb r e1] at e2; cases e2
    · rw [hg i hi] at e1; exact Nat.lt_succ_of_lt (wf.root i r q e1 e2)
  · intro i r q t e1 e2 e3
    by_cases hi : i = h.nxt
    · subst hi; rw [hn] at e1; rw [hb r e1] at e2; cases e2
    · rw [hg i hi] at e1
      obtain ⟨s, a, d⟩ := wf.tip i r q t e1 e2 e3
      refine ⟨s, ?_, d⟩
      rw [hg t (fun k => by subst k; rw [wf.fresh _ (Nat.le_refl _)] at a; cases a)]; exact a
  · intro q hq; exact wf.tipr q (Nat.le_of_succ_le hq)
  · intro i p e
    by_cases hi : i = h.nxt
    · subst hi; exact .inr ⟨g.nxt, Nat.lt_succ_self _⟩
    · rw [upd_ne _ _ hi] at e
      rcases g.dom i p e with q | ⟨q1, q2⟩
      · exact .inl q
      · exact .inr ⟨q1, Nat.lt_succ_of_lt q2⟩
  · intro i e1 e2
    have e2' : i < h.nxt + 1 := e2
    by_cases hi : i = h.nxt
    · subst hi; rw [upd_same]; rfl
    · rw [upd_ne _ _ hi]; exact g.full i e1 (by omega)
  · intro i e1 e2
    have e1' : ¬ (h0.nxt ≤ i ∧ i < h.nxt + 1) := e1
    have hi : i ≠ h.nxt := fun k => e1' ⟨by omega, by omega⟩
    exact fun k => g.dead i (fun hh => e1' ⟨hh.1, by omega⟩) e2 ((ho i hi).1 k)
  · intro i C M e1 e2
    by_cases hi : i = h.nxt
    · subst hi; rw [upd_same] at e1; cases e1; exact .inl hge
    · rw [upd_ne _ _ hi] at e1; exact g.newb i C M e1 e2
  · intro i e1 e2
    have e2' : i < h.nxt + 1 := e2
    by_cases hi : i = h.nxt
    · subst hi
      cases hq : ρ0 h.nxt with
      | none => rfl
      | some p => rw [g.sub _ _ hq] at fr; cases fr
    · exact g.free i e1 (by omega)

end Go.Ax
