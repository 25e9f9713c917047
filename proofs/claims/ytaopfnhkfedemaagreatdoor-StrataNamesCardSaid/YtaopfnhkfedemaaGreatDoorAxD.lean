/-
  AxD: memory: what holds between an evaluator's heap and the model's world, and the few ways in which both go on.
-/
import Derived.Test.YtaopfnhkfedemaaGreatDoorAxC
set_option linter.unusedVariables false
set_option linter.unusedSimpArgs false
namespace Go.Ax

def Heap.ok (h : Heap) (i : Nat) : Prop :=
  match h.get i with
  | .none => False
  | .row _ => (h.row i).isSome = true
  | _ => True

/-- two rows of one chain -/
def Kin (h : Heap) (i j : Nat) : Prop := ∃ r s q, h.get i = .row r ∧ h.get j = .row s ∧ r.root = some q ∧ s.root = some q

def RowOk (ρ : Map) (r : Row) (B N : Nat) (w : World) : Prop :=
  w.shape? B = some (r.t, N) ∧ r.n ≤ N ∧ (∀ j, j < N → w.frozen? ⟨B, j, none⟩ = false) ∧ ∀ j, j < r.n → ∃ v, w.cell? ⟨B, j, none⟩ = some v ∧ VR ρ (r.get j) v

def exCode : Ex → Option Code
  | .normal => none
  | .exit id => some (.exit id)
  | .ret => some .ret
def pendOf (x : Option Ex) : Option Code := match x with | none => none | some x => exCode x

/-- an activation's slots -/
def ER (ρ : Map) (e : T AV) (tm : Array Value) (sz : Nat) : Prop := tm.size = sz ∧ ∀ t, VR ρ (e.get und t) (tm.getD t undef)

def MapR (ρ : Map) (es : List (AV × AV × Nat)) (ES : List MapEntry) : Prop :=
  es.length = ES.length ∧ ∀ (i : Nat) (p : AV × AV × Nat) (e : MapEntry), es[i]? = some p → ES[i]? = some e → VR ρ p.1 e.key ∧ VR ρ p.2.1 e.val ∧ e.born = p.2.2

/-- what stands in a block -/
def ABR (ρ : Map) (b : AB) (B N : Nat) (w : World) : Prop :=
  match b with
  | .none => True
  | .row r => RowOk ρ r B N w
  | .map es clock => ∃ ES, w.heap[B]? = some (.map ES clock) ∧ MapR ρ es ES.toList
  | .loop l => ∃ fn tm D M, w.heap[B]? = some (.loop { state := l.state, pending := pendOf l.pending, fn := fn, tmps := tm, params := l.params.toArray, assign := l.assign, body := l.body, defers := D }) ∧ ER ρ l.e tm l.sz ∧ ρ l.defers = some (D, M)
  | .dfr b => w.heap[B]? = some (.deferred (match b with | true => some [] | false => none))
  | .mit m since seen last => ∃ M, (match m with | none => M = none | some i => ∃ C K, ρ i = some (C, K) ∧ M = some C) ∧ w.heap[B]? = some (.mapIter M since seen.toArray last)
  | .sit _ _ => False
  | .gl r => ∀ j, j < r.n → ∃ v, w.cell? ⟨B, j, none⟩ = some v ∧ VR ρ (r.get j) v

structure HR (ρ : Map) (h : Heap) (w : World) : Prop where
  lt : ∀ i B N, ρ i = some (B, N) → B < w.heap.size
  ok : ∀ i B N, ρ i = some (B, N) → h.ok i → ABR ρ (h.get i) B N w
  inj : ∀ i j B N M, i ≠ j → ρ i = some (B, N) → ρ j = some (B, M) → h.ok i → h.ok j → Kin h i j
  gl : ∀ i r, h.get i = .gl r → ∃ N, ρ i = some (i, N)

structure WF (h : Heap) : Prop where
  fresh : ∀ i, h.nxt ≤ i → h.get i = .none
  root : ∀ i r q, h.get i = .row r → r.root = some q → q < h.nxt
  tip : ∀ i r q t, h.get i = .row r → r.root = some q → h.tip q = some t → ∃ s, h.get t = .row s ∧ s.root = some q ∧ r.n ≤ s.n
  tipr : ∀ q, h.nxt ≤ q → h.tip q = none

/-- a part of a world that nobody has turned -/
structure Same (w w' : World) : Prop where
  os : w'.os = w.os
  tape : w'.tape = w.tape
  output : w'.output = w.output
  size : w.heap.size ≤ w'.heap.size

theorem Same.refl (w : World) : Same w w := ⟨rfl, rfl, rfl, Nat.le_refl _⟩
theorem Same.trans {a b c : World} (h : Same a b) (k : Same b c) : Same a c := ⟨k.os.trans h.os, k.tape.trans h.tape, k.output.trans h.output, Nat.le_trans h.size k.size⟩

/-- no number is taken yet that will be given -/
def Free (ρ : Map) (a b : Nat) : Prop := ∀ i, a ≤ i → i < b → ρ i = none

/-- BOTH HAVE GONE ON. -/
structure Good (ρ : Map) (h : Heap) (w : World) (ρ' : Map) (h' : Heap) (w' : World) : Prop where
  sub : Sub ρ ρ'
  hr : HR ρ' h' w'
  wf : WF h'
  nxt : h.nxt ≤ h'.nxt
  dom : ∀ i p, ρ' i = some p → ρ i = some p ∨ (h.nxt ≤ i ∧ i < h'.nxt)
  full : ∀ i, h.nxt ≤ i → i < h'.nxt → (ρ' i).isSome = true
  same : Same w w'
  frame : ∀ b, b < w.heap.size → (∀ i N, ρ i = some (b, N) → ¬ h.ok i) → w'.heap[b]? = w.heap[b]?
  dead : ∀ i, ¬ (h.nxt ≤ i ∧ i < h'.nxt) → ¬ h.ok i → ¬ h'.ok i
  newb : ∀ i B N, ρ' i = some (B, N) → ρ i = none → w.heap.size ≤ B ∨ ∃ j M, ρ j = some (B, M) ∧ h.ok j
  free : Free ρ h.nxt h'.nxt
  gl : ∀ i r, h.get i = .gl r → h'.get i = .gl r
  glw : ∀ i r, h.get i = .gl r → w'.heap[i]? = w.heap[i]?

theorem Good.refl {ρ : Map} {h : Heap} {w : World} (hr : HR ρ h w) (wf : WF h) : Good ρ h w ρ h w :=
  { sub := Sub.refl _, hr := hr, wf := wf, nxt := Nat.le_refl _, dom := fun _ _ e => .inl e, full := fun i a b => by omega, same := Same.refl _,
    frame := fun _ _ _ => rfl, dead := fun _ _ k => k, newb := fun _ _ _ e1 e2 => (by rw [e2] at e1; cases e1), free := fun i a b => (by omega), gl := fun _ _ e => e, glw := fun _ _ _ => rfl }

theorem Good.trans {ρ ρ1 ρ2 : Map} {h h1 h2 : Heap} {w w1 w2 : World} (a : Good ρ h w ρ1 h1 w1) (b : Good ρ1 h1 w1 ρ2 h2 w2) : Good ρ h w ρ2 h2 w2 := by
  have hn1 := a.nxt
  have hn2 := b.nxt
  refine { sub := a.sub.trans b.sub, hr := b.hr, wf := b.wf, nxt := Nat.le_trans a.nxt b.nxt, dom := ?_, full := ?_, same := a.same.trans b.same, frame := ?_, dead := ?_, newb := ?_, free := ?_, gl := fun i r e => b.gl i r (a.gl i r e), glw := fun i r e => (b.glw i r (a.gl i r e)).trans (a.glw i r e) }
  · intro i p e
    rcases b.dom i p e with e | ⟨e1, e2⟩
    · rcases a.dom i p e with e | ⟨e1, e2⟩
      · exact .inl e
      · exact .inr ⟨e1, by omega⟩
    · exact .inr ⟨by omega, e2⟩
  · intro i e1 e2
    by_cases e : i < h1.nxt
    · obtain ⟨p, hp⟩ := Option.isSome_iff_exists.1 (a.full i e1 e)
      rw [b.sub i p hp]; rfl
    · exact b.full i (by omega) e2
  · intro x hx hn
    rw [b.frame x (Nat.lt_of_lt_of_le hx a.same.size), a.frame x hx hn]
    intro i N e
    rcases hc : ρ i with _ | p
    · rcases a.newb i x N e hc with e2 | ⟨j, M, e2, e3⟩
      · omega
      · exact absurd e3 (hn j M e2)
    · have := a.sub i p hc
      rw [e] at this; cases this
      refine a.dead i (fun hh => ?_) (hn i N hc)
      rw [a.free i hh.1 hh.2] at hc; cases hc
  · intro i hi k
    exact b.dead i (by omega) (a.dead i (by omega) k)
  · intro i B N e1 e2
    rcases hc : ρ1 i with _ | p
    · rcases b.newb i B N e1 hc with e | ⟨j, M, e3, e4⟩
      · exact .inl (Nat.le_trans a.same.size e)
      · rcases hj : ρ j with _ | q
        · exact a.newb j B M e3 hj
        · have := a.sub j q hj; rw [e3] at this; cases this
          by_cases ho : h.ok j
          · exact .inr ⟨j, M, hj, ho⟩
          · exact absurd e4 (a.dead j (fun hh => by rw [a.free j hh.1 hh.2] at hj; cases hj) ho)
    · have := b.sub i p hc; rw [e1] at this; cases this
      exact a.newb i B N hc e2
  · intro i e1 e2
    by_cases e : i < h1.nxt
    · exact a.free i e1 e
    · rcases hc : ρ i with _ | p
      · rfl
      · have := a.sub i p hc
        rw [b.free i (by omega) e2] at this; cases this

/-! ## what turns no block: a draw -/
theorem HR.same {ρ : Map} {h : Heap} {w w' : World} (hr : HR ρ h w) (e : w'.heap = w.heap) : HR ρ h w' := by
  have hs : ∀ B, w'.shape? B = w.shape? B := fun B => by simp [World.shape?, e]
  have hf : ∀ a, w'.frozen? a = w.frozen? a := fun a => by simp [World.frozen?, e]
  have hc : ∀ a, w'.cell? a = w.cell? a := fun a => by simp [World.cell?, e]
  refine ⟨fun i B N k => by rw [e]; exact hr.lt i B N k, fun i B N k o => ?_, hr.inj, hr.gl⟩
  have := hr.ok i B N k o
  unfold ABR RowOk at *
  simp only [e, hs, hf, hc]
  exact this

theorem Good.draw {ρ ρ' : Map} {h h' : Heap} {w w1 w' : World} (g : Good ρ h w ρ' h' w') (e : w1.heap = w'.heap) (s : Same w' w1) : Good ρ h w ρ' h' w1 :=
  { g with hr := g.hr.same e, same := g.same.trans s, frame := fun b hb hn => (by rw [e]; exact g.frame b hb hn), glw := fun i r q => by rw [e]; exact g.glw i r q }

end Go.Ax
