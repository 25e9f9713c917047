/-
  AxUa: a heap that says less; two heaps joined.
-/
import Derived.Test.YtaopfnhkfedemaaGreatDoorAxT
set_option linter.unusedVariables false
set_option linter.unusedSimpArgs false
namespace Go.Ax

theorem natsEqB_eq : ∀ {a b : List Nat}, natsEqB a b = true → a = b
  | [], [], _ => rfl
  | [], _ :: _, h => by cases h
  | _ :: _, [], h => by cases h
  | x :: a, y :: b, h => by
    have h' : (match Nat.beq x y with | true => natsEqB a b | false => false) = true := h
    split at h'
    · rename_i hxy; rw [beqT hxy, natsEqB_eq h']
    · cases h'
theorem optEqN_eq {a b : Option Nat} (h : optEqN a b = true) : a = b := by
  unfold optEqN at h
  cases a with
  | none => cases b with
    | none => rfl
    | some y => cases h
  | some x => cases b with
    | none => cases h
    | some y => rw [beqT h]
theorem avEq0_eq {a b : AV} (h : avEq0 a b = true) : a = b := by
  cases a <;> cases b <;> first
    | (cases h; done)
    | rfl
    | skip
  case bool.bool x y => cases x <;> cases y <;> first | rfl | cases h
  case int.int k x j y =>
    simp only [avEq0] at h
    split at h
    · rename_i hk
      have := (ikEq_eq _ _).1 hk
      rw [ieq_eq] at h
      simp at h
      subst this; subst h; rfl
    · cases h
  case str.str x y => rw [natsEqB_eq (a := x) (b := y) h]
  case ptr.ptr i o j p =>
    simp only [avEq0] at h
    split at h
    · rename_i hi; rw [beqT hi, beqT h]
    · cases h
  case gptr.gptr i o j p =>
    simp only [avEq0] at h
    split at h
    · rename_i hi; rw [beqT hi, beqT h]
    · cases h
  case sl.sl i o l k z i' o' l' k' z' =>
    simp only [avEq0] at h
    split at h
    · rename_i hi
      split at h
      · rename_i ho
        split at h
        · rename_i hl
          split at h
          · rename_i hz; rw [beqT hi, beqT ho, beqT hl, beqT hz, optEqN_eq h]
          · cases h
        · cases h
      · cases h
    · cases h
  case esl.esl i j => rw [beqT (a := i) (b := j) h]
  case mp.mp i j => rw [beqT (a := i) (b := j) h]
theorem avsEq_eq : ∀ {a b : List AV}, avsEq a b = true → a = b
  | [], [], _ => rfl
  | [], y :: b, h => by cases h
  | x :: a, [], h => by cases h
  | x :: a, y :: b, h => by
    have h' : (match avEq0 x y with | true => avsEq a b | false => false) = true := h
    split at h'
    · rename_i hxy; rw [avEq0_eq hxy, avsEq_eq h']
    · cases h'
theorem fnEq_eq {f g : Fn} (h : fnEq f g = true) : f = g := by
  unfold fnEq at h
  split at h
  · split at h
    · rw [beqT h]
    · cases h
  · split at h
    · rw [beqT h]
    · cases h
  · cases h
theorem avEq_eq {a b : AV} (h : avEq a b = true) : a = b := by
  unfold avEq at h
  split at h
  · split at h
    · split at h
      · rename_i hi; rw [beqT hi, avEq0_eq h]
      · cases h
    · cases h
  · split at h
    · rw [avsEq_eq h]
    · cases h
  · split at h
    · rw [avsEq_eq h]
    · cases h
  · split at h
    · split at h
      · rename_i hf
        split at h
        · rename_i hl
          rw [fnEq_eq hf, avsEq_eq hl, avsEq_eq h]
        · cases h
      · cases h
    · cases h
  · exact avEq0_eq h


/-! ## a heap that says less -/
def RowSame (r s : Row) : Prop := r.t = s.t ∧ r.n = s.n ∧ ∀ j, j < r.n → r.get j = s.get j
theorem RowSame.refl (r : Row) : RowSame r r := ⟨rfl, rfl, fun _ _ => rfl⟩
theorem RowOk.same {ρ : Map} {r s : Row} {B N : Nat} {w : World} (h : RowOk ρ s B N w) (e : RowSame r s) : RowOk ρ r B N w :=
  ⟨by rw [e.1]; exact h.1, by rw [e.2.1]; exact h.2.1, h.2.2.1, fun j hj => by rw [e.2.2 j hj]; exact h.2.2.2 j (by rw [← e.2.1]; exact hj)⟩

/-- one block says less than another -/
def BlkLe (g h : Heap) (i : Nat) : Prop :=
  (g.get i = .none ∧ ∀ s q, h.get i = .row s → s.root = some q → g.tip q = none) ∨
  g.get i = h.get i ∨
  ∃ r s, g.get i = .row r ∧ h.get i = .row s ∧ RowSame r s ∧ (r.root = s.root ∨ (r.root = none ∧ ∃ q, s.root = some q ∧ g.tip q = none ∧ h.tip q = some i))

structure Weak0 (g h : Heap) : Prop where
  nxt : g.nxt = h.nxt
  blk : ∀ i, BlkLe g h i
  tip : ∀ q, g.tip q = none ∨ g.tip q = h.tip q
/-- the packages' variables stand there too -/
structure Weak (g h : Heap) : Prop where
  low : Weak0 g h
  gl : ∀ i r, h.get i = .gl r → g.get i = .gl r

theorem Weak0.okb {g h : Heap} (w : Weak0 g h) {i : Nat} (o : g.ok i) : h.ok i := by
  unfold Heap.ok at o ⊢
  rcases w.blk i with ⟨e, _⟩ | e | ⟨r, s, e1, e2, _, e3⟩
  · rw [e] at o; exact o.elim
  · rw [e] at o
    cases hb : h.get i with
    | row x =>
      rw [hb] at o
      simp only [] at o ⊢
      rw [Heap.row_of (e.trans hb)] at o
      rw [Heap.row_of hb]
      cases hx : x.root with
      | none => simp
      | some q =>
        rw [hx] at o
        simp only [] at o ⊢
        rcases w.tip q with t | t
        · rw [t] at o; cases o
        · rw [t] at o; exact o
    | _ => simp_all
  · rw [e1] at o
    rw [e2]
    simp only [] at o ⊢
    rw [Heap.row_of e1] at o
    rw [Heap.row_of e2]
    rcases e3 with e3 | ⟨e3, q, e4, e5, e6⟩
    · rw [e3] at o
      cases hx : s.root with
      | none => simp
      | some q =>
        rw [hx] at o
        simp only [] at o ⊢
        rcases w.tip q with t | t
        · rw [t] at o; cases o
        · rw [t] at o
          cases ht : h.tip q with
          | none => rw [ht] at o; cases o
          | some y => rfl
    · rw [e4]; simp only [e6]; rfl

theorem Weak0.hr {g h : Heap} (w : Weak0 g h) {ρ : Map} {wd : World} (hr : HR ρ h wd) : HR ρ g wd := by
  refine ⟨hr.lt, fun i B N e o => ?_, fun i j B N M hij e1 e2 o1 o2 => ?_, fun i r e => ?_⟩
  · have h1 := hr.ok i B N e (w.okb o)
    rcases w.blk i with ⟨e', _⟩ | e' | ⟨r, s, a1, a2, a3, _⟩
    · rw [e']; trivial
    · rw [e']; exact h1
    · rw [a1]; rw [a2] at h1; exact RowOk.same h1 a3
  · obtain ⟨r, s, q, a, b, c, d⟩ := hr.inj i j B N M hij e1 e2 (w.okb o1) (w.okb o2)
    -- each of the two keeps its root
    have keep : ∀ i r, h.get i = .row r → r.root = some q → g.ok i → (∃ r', g.get i = .row r' ∧ r'.root = some q) ∨ (g.tip q = none ∧ h.tip q = some i) := fun i r a c o => by
      rcases w.blk i with ⟨e', _⟩ | e' | ⟨x, y, a1, a2, a3, a4⟩
      · unfold Heap.ok at o; rw [e'] at o; exact o.elim
      · exact .inl ⟨r, e'.trans a, c⟩
      · rw [a] at a2; cases a2
        rcases a4 with a4 | ⟨_, q', b1, b2, b3⟩
        · exact .inl ⟨x, a1, a4.trans c⟩
        · rw [c] at b1; cases b1; exact .inr ⟨b2, b3⟩
    have alive : ∀ i r', g.get i = .row r' → r'.root = some q → g.ok i → g.tip q ≠ none := fun i r' a c o z => by
      unfold Heap.ok at o
      rw [a] at o
      simp only [] at o
      rw [Heap.row_of a, c] at o
      simp only [z] at o
      cases o
    rcases keep i r a c o1 with ⟨r', a', c'⟩ | ⟨t1, t2⟩
    · rcases keep j s b d o2 with ⟨s', b', d'⟩ | ⟨t1, t2⟩
      · exact ⟨r', s', q, a', b', c', d'⟩
      · exact absurd t1 (alive i r' a' c' o1)
    · rcases keep j s b d o2 with ⟨s', b', d'⟩ | ⟨t3, t4⟩
      · exact absurd t1 (alive j s' b' d' o2)
      · rw [t2] at t4; cases t4; exact absurd rfl hij
  · rcases w.blk i with ⟨e', _⟩ | e' | ⟨r', s, a1, _⟩
    · rw [e'] at e; cases e
    · exact hr.gl i r (e'.symm.trans e)
    · rw [a1] at e; cases e

theorem Weak0.wf {g h : Heap} (w : Weak0 g h) (wf : WF h) : WF g := by
  have root : ∀ i r q, g.get i = .row r → r.root = some q → ∃ s, h.get i = .row s ∧ s.root = some q ∧ r.n = s.n := fun i r q a b => by
    rcases w.blk i with ⟨e, _⟩ | e | ⟨r', s, a1, a2, a3, a4⟩
    · rw [e] at a; cases a
    · exact ⟨r, e.symm.trans a, b, rfl⟩
    · rw [a1] at a; cases a
      rcases a4 with a4 | ⟨a4, _⟩
      · exact ⟨s, a2, a4.symm.trans b, a3.2.1⟩
      · rw [a4] at b; cases b
  refine ⟨fun i hi => ?_, fun i r q a b => ?_, fun i r q t a b c => ?_, fun q hq => ?_⟩
  · have h1 := wf.fresh i (by rw [← w.nxt]; exact hi)
    rcases w.blk i with ⟨e, _⟩ | e | ⟨r, s, _, a2, _⟩
    · exact e
    · rw [e]; exact h1
    · rw [h1] at a2; cases a2
  · obtain ⟨s, s1, s2, _⟩ := root i r q a b
    rw [w.nxt]; exact wf.root i s q s1 s2
  · obtain ⟨s, s1, s2, s3⟩ := root i r q a b
    have ht : h.tip q = some t := by
      rcases w.tip q with z | z
      · rw [z] at c; cases c
      · rw [← z]; exact c
    obtain ⟨y, y1, y2, y3⟩ := wf.tip i s q t s1 s2 ht
    rcases w.blk t with ⟨_, e⟩ | e | ⟨x, z, a1, a2, a3, a4⟩
    · rw [e y q y1 y2] at c; cases c
    · exact ⟨y, e.trans y1, y2, by omega⟩
    · rw [y1] at a2; cases a2
      rcases a4 with a4 | ⟨_, q', b1, b2, _⟩
      · exact ⟨x, a1, a4.trans y2, by have := a3.2.1; omega⟩
      · rw [y2] at b1; cases b1; rw [b2] at c; cases c
  · have := wf.tipr q (by rw [← w.nxt]; exact hq)
    rcases w.tip q with z | z
    · exact z
    · rw [z]; exact this

/-- what has come may be said with less -/
theorem Good.weak0 {ρ ρ' : Map} {h h' g : Heap} {w w' : World} (a : Good ρ h w ρ' h' w') (k : Weak0 g h') (hgl : ∀ i r, h.get i = .gl r → g.get i = .gl r) : Good ρ h w ρ' g w' :=
  { sub := a.sub, hr := k.hr a.hr, wf := k.wf a.wf, nxt := by rw [k.nxt]; exact a.nxt, dom := by rw [k.nxt]; exact a.dom, full := by rw [k.nxt]; exact a.full,
    same := a.same, frame := a.frame, dead := fun i q1 q2 q3 => a.dead i (by rw [← k.nxt]; exact q1) q2 (k.okb q3), newb := a.newb, free := (by rw [k.nxt]; exact a.free), gl := hgl, glw := a.glw }
theorem Good.weak {ρ ρ' : Map} {h h' g : Heap} {w w' : World} (a : Good ρ h w ρ' h' w') (k : Weak g h') : Good ρ h w ρ' g w' := a.weak0 k.low fun i r q => k.gl i r (a.gl i r q)

/-! ## a world that has grown -/
theorem HR.ext {ρ : Map} {h : Heap} {w w' : World} (hr : HR ρ h w) (hs : w.heap.size ≤ w'.heap.size) (hb : ∀ B, B < w.heap.size → w'.heap[B]? = w.heap[B]?) : HR ρ h w' :=
  ⟨fun i B N e => Nat.lt_of_lt_of_le (hr.lt i B N e) hs, fun i B N e o => (hr.ok i B N e o).block (hb B (hr.lt i B N e)), hr.inj, hr.gl⟩
theorem Good.ext {ρ ρ' : Map} {h h' : Heap} {w w' w2 : World} (g : Good ρ h w ρ' h' w') (s : Same w' w2) (hb : ∀ B, B < w'.heap.size → w2.heap[B]? = w'.heap[B]?) : Good ρ h w ρ' h' w2 :=
  { g with hr := g.hr.ext s.size hb, same := g.same.trans s, frame := fun b hlt hn => by rw [hb b (Nat.lt_of_lt_of_le hlt g.same.size)]; exact g.frame b hlt hn, glw := fun i r q => (by obtain ⟨M, hM⟩ := g.hr.gl i r (g.gl i r q); rw [hb i (g.hr.lt i i M hM)]; exact g.glw i r q) }

/-! ## the log does not matter -/
theorem HR.unlog {ρ : Map} {h : Heap} {w : World} (hr : HR ρ h w) : HR ρ h.unlog w := ⟨hr.lt, hr.ok, hr.inj, hr.gl⟩
theorem WF.unlog {h : Heap} (wf : WF h) : WF h.unlog := ⟨wf.fresh, wf.root, wf.tip, wf.tipr⟩
theorem Good.ofUnlog {ρ ρ' : Map} {h h' : Heap} {w w' : World} (a : Good ρ h.unlog w ρ' h' w') : Good ρ h w ρ' h' w' :=
  ⟨a.sub, a.hr, a.wf, a.nxt, a.dom, a.full, a.same, a.frame, a.dead, a.newb, a.free, a.gl, a.glw⟩

/-! ## what was written is logged -/
def Logged (h h' : Heap) : Prop := ∃ l, h'.log = l ++ h.log ∧ ∀ i, i ∉ l → h'.get i = h.get i ∧ h'.tip i = h.tip i
theorem Logged.refl (h : Heap) : Logged h h := ⟨[], rfl, fun _ _ => ⟨rfl, rfl⟩⟩
theorem Logged.trans {a b c : Heap} (x : Logged a b) (y : Logged b c) : Logged a c := by
  obtain ⟨l, l1, l2⟩ := x
  obtain ⟨m, m1, m2⟩ := y
  refine ⟨m ++ l, by rw [m1, l1, List.append_assoc], fun i hi => ?_⟩
  simp only [List.mem_append, not_or] at hi
  exact ⟨(m2 i hi.1).1.trans (l2 i hi.2).1, (m2 i hi.1).2.trans (l2 i hi.2).2⟩
theorem Logged.put (h : Heap) (i : Nat) (b : AB) : Logged h (h.put i b) :=
  ⟨[i], rfl, fun j hj => ⟨by rw [Heap.get_put, if_neg (by simpa using hj)], rfl⟩⟩
theorem Logged.new (h : Heap) (b : AB) : Logged h (h.new b) :=
  ⟨[h.nxt], rfl, fun j hj => ⟨by rw [Heap.get_new, if_neg (by simpa using hj)], rfl⟩⟩
theorem Logged.mine {h h' : Heap} {i : Nat} {r : Row} (e : h.mine i = some (r, h')) : Logged h h' := by
  unfold Heap.mine at e
  split at e
  · split at e
    · cases e; exact Logged.refl h
    · rename_i q hq
      split at e
      · split at e
        · cases e
          refine ⟨[q], rfl, fun j hj => ⟨rfl, ?_⟩⟩
          show T.get _ (T.set _ _ _ _) j = _
          rw [get_set_ne _ _ (by simpa using hj)]; rfl
        · cases e
      · cases e
  · cases e
theorem Logged.grownTip (h : Heap) (id : Nat) (r : Row) (q m z : Nat) (cs : List AV) : Logged h (grownTip h id r q m z cs) := by
  refine ⟨[id, h.nxt, q], rfl, fun j hj => ?_⟩
  simp only [List.mem_cons, List.not_mem_nil, or_false, not_or] at hj
  refine ⟨?_, ?_⟩
  · show T.get _ (T.set _ _ _ _) j = _
    rw [get_set_ne _ _ hj.2.1, get_set_ne _ _ hj.1]; rfl
  · show T.get _ (T.set _ _ _ _) j = _
    rw [get_set_ne _ _ hj.2.2]; rfl
theorem Logged.wCells {h h' : Heap} {id off : Nat} {l : List AV} (e : wCells h id off l = some h') : Logged h h' := by
  unfold Ax.wCells at e
  split at e
  · rename_i r h1 hm
    split at e
    · split at e
      · cases e; exact (Logged.mine hm).trans (Logged.put _ _ _)
      · cases e
    · cases e
  · cases e
theorem Logged.newRow (h : Heap) (t : TypeId) (n : Nat) (c : T (Option AV)) (p : List AV) : Logged h (newRow h t n c p) := Logged.new h _
theorem Logged.box {h h' : Heap} {t : TypeId} {a v : AV} (e : oBox h t a = some (v, h')) : Logged h h' := by
  unfold oBox at e
  cases a <;> simp at e <;> (obtain ⟨_, rfl⟩ := e; exact Logged.newRow _ _ _ _ _)
theorem Logged.growNew {h h' : Heap} {e : TypeId} {z n : Nat} {cs : List AV} {v : AV} (q : growNew h e z n cs = some (v, h')) : Logged h h' := by
  unfold Ax.growNew at q
  split at q
  · cases q; exact Logged.newRow _ _ _ _ _
  · cases q
theorem Logged.cutRow {h h' : Heap} {id k : Nat} {r : Row} (e : cutRow h id k = some (r, h')) : Logged h h' := by
  unfold Ax.cutRow at e
  split at e
  · cases e
  · rename_i h1 hw
    split at e
    · split at e
      · split at e
        · cases e; exact (Logged.wCells hw).trans (Logged.put _ _ _)
        · cases e
      · cases e
    · cases e
theorem Logged.tipGrow {h h' : Heap} {e : TypeId} {id off len z m : Nat} {cs : List AV} {r : Row} {v : AV} (q : tipGrow h e id off len z m cs r = some (v, h')) : Logged h h' := by
  unfold Ax.tipGrow at q
  repeat' (split at q)
  all_goals first
    | (cases q; done)
    | (cases q; exact Logged.grownTip _ _ _ _ _ _ _)
theorem Logged.appCells {h h' : Heap} {e : TypeId} {z m : Nat} {cs : List AV} {s v : AV} (q : appCells h e z m cs s = some (v, h')) : Logged h h' := by
  unfold Ax.appCells at q
  split at q
  · split at q
    · cases q; exact Logged.refl h
    · exact Logged.growNew q
  · split at q
    · cases q
    · split at q
      · cases q; exact Logged.refl h
      · unfold appSl at q
        split at q
        · split at q
          · split at q
            · rename_i h1 hw; cases q; exact Logged.wCells hw
            · cases q
          · split at q
            · split at q
              · exact Logged.growNew q
              · cases q
            · cases q
        · split at q
          · split at q
            · split at q
              · rename_i h1 hw; cases q; exact Logged.wCells hw
              · cases q
            · split at q
              · exact Logged.tipGrow q
              · split at q
                · rename_i r' h1 hc
                  exact (Logged.cutRow hc).trans (Logged.tipGrow q)
                · cases q
          · cases q
  · cases q

theorem unit_inv {h' : Heap} {r : Option Heap} {v : AV} (e : unit r = some (.v v h')) : r = some h' := (unit_eq e).1
/-- an operation of the few -/
theorem Logged.opA {c : Ctx} {e : T AV} {h h' : Heap} {o : Op} {v : AV} (hc : calmOp o = true) (q : opA c e h o = some (.v v h')) : Logged h h' := by
  cases o <;> simp only [calmOp] at hc <;> try (cases hc; done)
  case move x => simp only [Ax.opA] at q; cases q; exact Logged.refl _
  case assign x => simp only [Ax.opA] at q; cases q; exact Logged.refl _
  case alloc t =>
    simp only [Ax.opA] at q
    have q := valH_eq q
    unfold oAlloc at q
    split at q
    · exact Logged.box q
    · cases q
  case build t ps => simp only [Ax.opA] at q; obtain ⟨_, rfl⟩ := val_eq q; exact Logged.refl _
  case buildSlice t n ps =>
    simp only [Ax.opA] at q
    have q := valH_eq q
    unfold oBuildSlice at q
    repeat' (split at q)
    all_goals first | (cases q; done) | (cases q; exact Logged.newRow _ _ _ _ _)
  case load t x => simp only [Ax.opA] at q; obtain ⟨_, rfl⟩ := val_eq q; exact Logged.refl _
  case store t x y =>
    simp only [Ax.opA] at q
    have q := unit_inv q
    unfold oStore at q
    repeat' (split at q)
    all_goals first | (cases q; done) | exact Logged.wCells q
  case nilCheck x => simp only [Ax.opA] at q; obtain ⟨_, rfl⟩ := val_eq q; exact Logged.refl _
  case binOp op t x y u => simp only [Ax.opA] at q; obtain ⟨_, rfl⟩ := val_eq q; exact Logged.refl _
  case unOp op t x => simp only [Ax.opA] at q; obtain ⟨_, rfl⟩ := val_eq q; exact Logged.refl _
  case slice t x lo hi mx => simp only [Ax.opA] at q; obtain ⟨_, rfl⟩ := val_eq q; exact Logged.refl _
  case fieldAddr t x i => simp only [Ax.opA] at q; obtain ⟨_, rfl⟩ := val_eq q; exact Logged.refl _
  case field t x i => simp only [Ax.opA] at q; obtain ⟨_, rfl⟩ := val_eq q; exact Logged.refl _
  case indexAddr t x i => simp only [Ax.opA] at q; obtain ⟨_, rfl⟩ := val_eq q; exact Logged.refl _
  case call k =>
    cases hk : k.callee with
    | value f => rw [hk] at hc; cases hc
    | invoke r m => rw [hk] at hc; cases hc
    | builtin b =>
      rw [hk] at hc
      simp only [Ax.opA, oCall, hk] at q
      cases b <;> simp only [] at hc <;> try (cases hc; done)
      case append =>
        simp only [oBuiltin] at q
        repeat' (split at q)
        all_goals first
          | (cases q; done)
          | (rename_i hu; cases q; unfold oAppendZ at hu; repeat' (split at hu)
             all_goals first | (cases hu; done) | exact Logged.appCells hu)
          | (rename_i hu; cases q; unfold oAppend at hu; repeat' (split at hu)
             all_goals first | (cases hu; done) | exact Logged.appCells hu)
      case len =>
        simp only [oBuiltin] at q
        repeat' (split at q)
        all_goals first
          | (cases q; done)
          | (cases q; exact Logged.refl _)
/-- such an operation calls nobody -/
theorem calm_noGo {c : Ctx} {e : T AV} {h h' : Heap} {o : Op} {t : Tgt} {l : List AV} (hc : calmOp o = true) (q : opA c e h o = some (.go t l h')) : False := by
  cases o <;> simp only [calmOp] at hc <;> try (cases hc; done)
  case call k =>
    cases hk : k.callee with
    | value f => rw [hk] at hc; cases hc
    | invoke r m => rw [hk] at hc; cases hc
    | builtin b =>
      simp only [Ax.opA, oCall, hk] at q
      unfold oBuiltin at q
      repeat' (split at q)
      all_goals cases q
  all_goals
    simp only [Ax.opA] at q
    first
      | (cases q; done)
      | (unfold val at q; split at q <;> cases q)
      | (unfold valH at q; split at q <;> cases q)
      | (unfold Ax.unit at q; split at q <;> cases q)
end Go.Ax
