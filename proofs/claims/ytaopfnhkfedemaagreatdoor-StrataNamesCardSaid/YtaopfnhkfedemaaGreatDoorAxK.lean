/-
  AxK: what writes: cells; new rows; new objects.
-/
import Derived.Test.YtaopfnhkfedemaaGreatDoorAxJ
import Derived.Laws.IdiomCopy
import Derived.Laws.MakeOwn
import Derived.Laws.Tables
import Derived.Great.BuildSlice
set_option linter.unusedVariables false
set_option linter.unusedSimpArgs false
namespace Go.Ax

/-! ## cells set one by one -/
theorem heap_setCell_ne (w : World) (b o : Nat) (v : Value) (C : Nat) (h : C ≠ b) : (w.setCell ⟨b, o, none⟩ v).heap[C]? = w.heap[C]? := by
  simp only [World.setCell]
  rw [Array.getElem?_modify, if_neg (fun e => h e.symm)]
theorem heap_setCells_ne (b : Nat) (C : Nat) (h : C ≠ b) : ∀ (vs : List Value) (o : Nat) (w : World), (w.setCells b o vs).heap[C]? = w.heap[C]?
  | [], _, _ => rfl
  | v :: r, o, w => by rw [World.setCells, heap_setCells_ne b C h r, heap_setCell_ne _ _ _ _ _ h]
theorem size_setCells (b : Nat) : ∀ (vs : List Value) (o : Nat) (w : World), (w.setCells b o vs).heap.size = w.heap.size
  | [], _, _ => rfl
  | v :: r, o, w => by rw [World.setCells, size_setCells b r]; simp [World.setCell]
theorem same_setCells (b : Nat) : ∀ (vs : List Value) (o : Nat) (w : World), Same w (w.setCells b o vs)
  | [], _, w => Same.refl w
  | v :: r, o, w => by
    have h : Same w (w.setCell ⟨b, o, none⟩ v) := ⟨rfl, rfl, rfl, by simp [World.setCell]⟩
    exact h.trans (same_setCells b r (o + 1) _)
theorem shape_setCell (w : World) (a : Addr) (v : Value) (b : Nat) : (w.setCell a v).shape? b = w.shape? b := by
  simp only [World.shape?, World.setCell]
  rw [Array.getElem?_modify]
  by_cases h : a.block = b
  · rw [if_pos h]
    cases w.heap[b]? with
    | none => rfl
    | some o => cases o <;> simp; split <;> simp
  · rw [if_neg h]
theorem shape_setCells (b C : Nat) : ∀ (vs : List Value) (o : Nat) (w : World), (w.setCells b o vs).shape? C = w.shape? C
  | [], _, _ => rfl
  | v :: r, o, w => by rw [World.setCells, shape_setCells b C r, shape_setCell]

theorem ones_ok : ∀ {ρ : Map} {l : List AV} {L : List Value}, ones l = true → VRs ρ l L → ∀ v ∈ L, v.oneCell' = true
  | ρ, [], L, _, h => by simp only [VRs] at h; subst h; intro v hv; cases hv
  | ρ, a :: l, L, e, h => by
    simp only [VRs] at h
    obtain ⟨x, r, hx, hr, rfl⟩ := h
    have e' : (match a.one with | true => ones l | false => false) = true := e
    intro v hv
    rcases List.mem_cons.1 hv with rfl | hv
    · cases a <;> simp [AV.one] at e' <;> simp only [VR] at hx
      case bool => subst hx; rfl
      case int => subst hx; rfl
      case str => subst hx; rfl
      case nilptr => subst hx; rfl
      case ptr => obtain ⟨_, _, _, rfl⟩ := hx; rfl
      case nilsl => subst hx; rfl
      case sl => obtain ⟨_, _, _, _, rfl, _⟩ := hx; rfl
      case esl => obtain ⟨_, _, _, _, _, rfl⟩ := hx; rfl
      case nilmp => subst hx; rfl
      case mp => obtain ⟨_, _, _, rfl⟩ := hx; rfl
      case nilfn => subst hx; rfl
      case fn => obtain ⟨_, _, _, _, _, _, rfl⟩ := hx; rfl
      case nilifc => subst hx; rfl
      case ifc => obtain ⟨_, _, rfl⟩ := hx; rfl
      case gptr => subst hx; rfl
      case anyb => obtain ⟨_, rfl⟩ := hx; rfl
      case big => obtain ⟨_, _, rfl⟩ := hx; rfl
      case low => obtain ⟨_, _, rfl⟩ := hx; rfl
      case anyi => obtain ⟨_, rfl⟩ := hx; rfl
    · split at e'
      · exact ones_ok e' hr v hv
      · cases e'

/-- the row as it stands when cells have been set -/
theorem RowOk.sets {ρ : Map} {r : Row} {B N : Nat} {w : World} (h : RowOk ρ r B N w) {l : List AV} {L : List Value} (hl : VRs ρ l L) {off : Nat} (hn : off + l.length ≤ r.n) :
    RowOk ρ { (r.write off l) with root := none } B N (w.setCells B off L) := by
  have hlen := hl.length
  have hin : ∀ j, j < L.length → (w.cell? ⟨B, off + j, none⟩).isSome = true := fun j hj => by
    obtain ⟨v, a, _⟩ := h.2.2.2 (off + j) (by omega)
    rw [a]; rfl
  obtain ⟨wt, wn, wr⟩ := Row.write_t r off l
  refine ⟨by rw [shape_setCells]; show w.shape? B = some ((r.write off l).t, N); rw [wt]; exact h.1, (by show (r.write off l).n ≤ N; rw [wn]; exact h.2.1), fun j hj => by rw [World.frozen?_setCells]; exact h.2.2.1 j hj, fun j hj => ?_⟩
  have hj' : j < r.n := by have : j < (r.write off l).n := hj; rw [wn] at this; exact this
  show ∃ v, _ ∧ VR ρ ((r.write off l).get j) v
  rw [Row.write_get r off l j hj']
  by_cases hc : off ≤ j ∧ j < off + l.length
  · rw [if_pos hc]
    have e1 : j - off < L.length := by omega
    have := World.cell?_setCells_in B L off w hin (j - off) e1
    rw [show off + (j - off) = j by omega] at this
    refine ⟨_, this, ?_⟩
    have hk : j - off < l.length := by omega
    rw [List.getElem?_eq_getElem hk]
    exact (VRs.iff.1 hl).2 (j - off) _ _ (List.getElem?_eq_getElem hk) (List.getElem?_eq_getElem e1)
  · rw [if_neg hc]
    obtain ⟨v, a, b⟩ := h.2.2.2 j hj'
    refine ⟨v, ?_, b⟩
    rw [World.cell?_setCells_out B L off w ⟨B, j, none⟩ (fun _ _ => by simp only []; omega)]
    exact a

/-- CELLS WRITTEN. -/
theorem wCells_ok {ρ : Map} {h h' : Heap} {w : World} (hr : HR ρ h w) (wf : WF h) {id off : Nat} {l : List AV} (e : wCells h id off l = some h') {B N : Nat} (hi : ρ id = some (B, N))
    {L : List Value} (hl : VRs ρ l L) :
    Good ρ h w ρ h' (w.setCells B off L) ∧ (∀ j, j < L.length → (w.cell? ⟨B, off + j, none⟩).isSome = true) ∧ (∀ j, j < L.length → w.frozen? ⟨B, off + j, none⟩ = false) ∧ (∀ v ∈ L, v.oneCell' = true) := by
  unfold wCells at e
  split at e
  · rename_i r h1 hm
    split at e
    · rename_i ho
      split at e
      · rename_i hb
        cases e
        have hb := bleT hb
        obtain ⟨s, hs0, hok, hrs, _⟩ := Heap.mine_spec hm
        have ro0 := hr.ok id B N hi hok
        rw [hs0] at ro0
        have ro : RowOk ρ r B N w := by rw [hrs]; exact ro0
        have hlen := hl.length
        refine ⟨?_, fun j hj => ?_, fun j hj => ?_, ones_ok ho hl⟩
        · refine Good.writeRow hr wf hi hm (r' := r.write off l) (Row.write_t r off l).1 (Row.write_t r off l).2.1 ((Row.write_t r off l).2.2.trans (by rw [hrs])) ?_ (fun C hC => heap_setCells_ne B C hC L off w) (same_setCells B L off w) (size_setCells B L off w)
          have := ro.sets hl (off := off) hb
          have hroot : (r.write off l).root = none := (Row.write_t r off l).2.2.trans (by rw [hrs])
          have e3 : { (r.write off l) with root := none } = r.write off l := by
            generalize r.write off l = q at hroot
            obtain ⟨t, n, c, pat, root⟩ := q
            simp only [] at hroot
            rw [hroot]
          rw [e3] at this; exact this
        · obtain ⟨v, a, _⟩ := ro.2.2.2 (off + j) (by omega); rw [a]; rfl
        · exact ro.2.2.1 _ (by have := ro.2.1; omega)
      · cases e
    · cases e
  · cases e

/-- a value's cells -/
theorem cells_ok {ρ : Map} {a : AV} {v : Value} (h : VR ρ a v) (hb : a ≠ AV.bad) : VRs ρ a.cells v.cells.toList := by
  cases a <;> simp only [VR] at h
  case bad => exact absurd rfl hb
  case agg l => obtain ⟨L, hl, rfl⟩ := h; simpa [AV.cells, Value.cells] using hl
  case bool => subst h; simp [AV.cells, Value.cells, VRs, VR]
  case int => subst h; simp [AV.cells, Value.cells, VRs, VR]
  case str => subst h; simp [AV.cells, Value.cells, VRs, VR]
  case nilptr => subst h; simp [AV.cells, Value.cells, VRs, VR]
  case nilsl => subst h; simp [AV.cells, Value.cells, VRs, VR]
  case nilmp => subst h; simp [AV.cells, Value.cells, VRs, VR]
  case nilfn => subst h; simp [AV.cells, Value.cells, VRs, VR]
  case nilifc => subst h; simp [AV.cells, Value.cells, VRs, VR]
  case ptr => obtain ⟨B, N, hp, rfl⟩ := h; simp only [AV.cells, Value.cells, VRs, VR]; exact ⟨_, _, ⟨B, N, hp, rfl⟩, rfl, rfl⟩
  case sl => obtain ⟨B, N, C, hp, rfl, q⟩ := h; simp only [AV.cells, Value.cells, VRs, VR]; exact ⟨_, _, ⟨B, N, C, hp, rfl, q⟩, rfl, rfl⟩
  case esl => obtain ⟨B, N, o, C, hp, rfl⟩ := h; simp only [AV.cells, Value.cells, VRs, VR]; exact ⟨_, _, ⟨B, N, o, C, hp, rfl⟩, rfl, rfl⟩
  case mp => obtain ⟨B, N, hp, rfl⟩ := h; simp only [AV.cells, Value.cells, VRs, VR]; exact ⟨_, _, ⟨B, N, hp, rfl⟩, rfl, rfl⟩
  case fn => obtain ⟨f', F, C, q1, q2, q3, rfl⟩ := h; simp only [AV.cells, Value.cells, VRs, VR]; exact ⟨_, _, ⟨f', F, C, q1, q2, q3, rfl⟩, rfl, rfl⟩
  case ifc => obtain ⟨x, hp, rfl⟩ := h; simp only [AV.cells, Value.cells, VRs, VR]; exact ⟨_, _, ⟨x, hp, rfl⟩, rfl, rfl⟩
  case gptr => subst h; simp [AV.cells, Value.cells, VRs, VR]
  case anyb => obtain ⟨b, rfl⟩ := h; simp only [AV.cells, Value.cells, VRs, VR]; exact ⟨_, _, ⟨b, rfl⟩, rfl, rfl⟩
  case big => obtain ⟨m, hm, rfl⟩ := h; simp only [AV.cells, Value.cells, VRs, VR]; exact ⟨_, _, ⟨m, hm, rfl⟩, rfl, rfl⟩
  case low => obtain ⟨m, hm, rfl⟩ := h; simp only [AV.cells, Value.cells, VRs, VR]; exact ⟨_, _, ⟨m, hm, rfl⟩, rfl, rfl⟩
  case anyi => obtain ⟨m, rfl⟩ := h; simp only [AV.cells, Value.cells, VRs, VR]; exact ⟨_, _, ⟨m, rfl⟩, rfl, rfl⟩
  case tup => obtain ⟨L, hl, rfl⟩ := h; simp only [AV.cells, Value.cells, VRs, VR]; exact ⟨_, _, ⟨L, hl, rfl⟩, rfl, rfl⟩

section
variable {c : Ctx} (k : CtxOk c)
include k

theorem store_ok {ρ : Map} {h h' : Heap} {w : World} (hr : HR ρ h w) (wf : WF h) {t : TypeId} {a v : AV} {A V : Value} (e : oStore c h t a v = some h') (ha : VR ρ a A) (hv : VR ρ v V) :
    ∃ w', (Instr.storeAt t A V).run c.P w = .ok () w' ∧ Good ρ h w ρ h' w' := by
  unfold oStore at e
  split at e
  · rename_i id off
    split at e
    · rename_i s hsz
      split at e
      · rename_i hs
        have hs := beqT hs
        simp only [VR] at ha
        obtain ⟨B, N, hp, rfl⟩ := ha
        have hnb : v ≠ AV.bad := fun hq => by
          subst hq
          unfold wCells at e
          split at e
          · simp [AV.cells, ones, AV.one] at e
          · cases e
        have hc := cells_ok hv hnb
        obtain ⟨g, g1, g2, g3⟩ := wCells_ok hr wf e hp hc
        have := run_storeCells_cells (P := c.P) B off V.cells.toList 0 w (by simpa using g1) (by simpa using g2) g3
        refine ⟨_, ?_, g⟩
        have hl := hc.length
        have hne : V.cells.size = s := by rw [hs, hl]; simp
        simp [Instr.storeAt, Instr.sureAddr, storeVar, run_size k hsz, hne, this]
      · cases e
    · cases e
  · cases e

omit k in
/-- A NEW ROW. -/
theorem newRow_ok {ρ : Map} {h : Heap} {w : World} (hr : HR ρ h w) (wf : WF h) (fr : ρ h.nxt = none) (t : TypeId) (n : Nat) (pat : List AV) (C : Array Value)
    (hc : ∀ j, j < n → ∃ v, C[j]? = some v ∧ VR ρ (Row.get ⟨t, n, .leaf, pat, none⟩ j) v) (hn : n = C.size) :
    Good ρ h w (upd ρ h.nxt (w.heap.size, C.size)) (newRow h t n .leaf pat) (w.alloc (.cells C t)) := by
  refine Good.newBlock hr wf fr (.row ⟨t, n, .leaf, pat, none⟩) (.cells C t) C.size (fun r e => by cases e; rfl) ?_
  refine ⟨?_, Nat.le_of_eq hn, fun j hj => World.frozen?_alloc_at C t _ j rfl, fun j hj => ?_⟩
  · unfold World.shape?; rw [alloc_at]
  · obtain ⟨v, a, b⟩ := hc j hj
    refine ⟨v, ?_, b.mono (upd_sub fr)⟩
    rw [World.cell?_alloc_at C t _ j rfl]; exact a

omit k in
theorem Row.get_new (t : TypeId) (n : Nat) (pat : List AV) (j : Nat) : Row.get ⟨t, n, .leaf, pat, none⟩ j = (pat[j % pat.length]?).getD .bad := by
  unfold Row.get
  simp only [get_leaf, nth_eq]
  cases pat[j % pat.length]? <;> rfl

omit k in
theorem whole {ρ : Map} {l : List AV} {L : List Value} (h : VRs ρ l L) (t : TypeId) : ∀ j, j < l.length → ∃ v, L.toArray[j]? = some v ∧ VR ρ (Row.get ⟨t, l.length, .leaf, l, none⟩ j) v := fun j hj => by
  rw [Row.get_new, Nat.mod_eq_of_lt hj, List.getElem?_eq_getElem hj]
  obtain ⟨v, a, b⟩ := h.at (List.getElem?_eq_getElem hj)
  exact ⟨v, by simpa using a, b⟩

omit k in
theorem box_ok {P : Program} {ρ : Map} {h h' : Heap} {w : World} (hr : HR ρ h w) (wf : WF h) (fr : ρ h.nxt = none) {t : TypeId} {a v : AV} {A : Value} (e : oBox h t a = some (v, h')) (ha : VR ρ a A) :
    ∃ z w' ρ', (Instr.box t A).run P w = .ok z w' ∧ Good ρ h w ρ' h' w' ∧ VR ρ' v z := by
  have hnb : a ≠ AV.bad := fun hq => by subst hq; cases e
  have hc := cells_ok ha hnb
  have e' : v = .ptr h.nxt 0 ∧ h' = newRow h t a.cells.length .leaf a.cells := by
    unfold oBox at e
    cases a <;> simp only [Option.some.injEq, Prod.mk.injEq, reduceCtorEq] at e <;> exact ⟨e.1.symm, e.2.symm⟩
  obtain ⟨rfl, rfl⟩ := e'
  refine ⟨.pointer (some ⟨w.heap.size, 0, none⟩), w.alloc (.cells A.cells t), upd ρ h.nxt (w.heap.size, A.cells.size), ?_, ?_, ?_⟩
  · simp [Instr.box, newVar, Go.newRow]
  · have := newRow_ok hr wf fr t a.cells.length a.cells A.cells (by simpa using whole hc t) (by simpa using hc.length)
    exact this
  · simp only [VR]; exact ⟨_, _, upd_same _ _ _, rfl⟩

theorem alloc_ok {ρ : Map} {h h' : Heap} {w : World} (hr : HR ρ h w) (wf : WF h) (fr : ρ h.nxt = none) {t : TypeId} {v : AV} (e : oAlloc c h t = some (v, h')) (old : Value) :
    ∃ z w' ρ', (Instr.alloc t true old).run c.P w = .ok z w' ∧ Good ρ h w ρ' h' w' ∧ VR ρ' v z := by
  unfold oAlloc at e
  split at e
  · rename_i z hz
    obtain ⟨Z, z1, z2, _⟩ := run_zero k hz ρ
    obtain ⟨x, w', ρ', b1, b2, b3⟩ := box_ok (P := c.P) hr wf fr e z2
    refine ⟨x, w', ρ', ?_, b2, b3⟩
    simp only [Instr.box] at b1
    simp only [Instr.alloc, Sem.run_bind, z1, Result.andThen_ok]
    exact b1
  · cases e
end
end Go.Ax
