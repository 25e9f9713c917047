/-
  AxE: the ways in which heap and world go on: a new block; an object turned; cells written; a row's tip grown.
-/
import Derived.Test.YtaopfnhkfedemaaGreatDoorAxD
import Derived.RangeFuncRecord
set_option linter.unusedVariables false
set_option linter.unusedSimpArgs false
namespace Go.Ax

theorem shape_of {w w' : World} {B : Nat} (e : w'.heap[B]? = w.heap[B]?) : w'.shape? B = w.shape? B := by simp only [World.shape?, e]
theorem frozen_of {w w' : World} {B : Nat} (e : w'.heap[B]? = w.heap[B]?) (j : Nat) : w'.frozen? ⟨B, j, none⟩ = w.frozen? ⟨B, j, none⟩ := by simp only [World.frozen?, e]
theorem cell_of {w w' : World} {B : Nat} (e : w'.heap[B]? = w.heap[B]?) (j : Nat) : w'.cell? ⟨B, j, none⟩ = w.cell? ⟨B, j, none⟩ := by simp only [World.cell?, e]

theorem RowOk.block {ρ : Map} {r : Row} {B N : Nat} {w w' : World} (h : RowOk ρ r B N w) (e : w'.heap[B]? = w.heap[B]?) : RowOk ρ r B N w' := by
  unfold RowOk at *
  simp only [shape_of e, frozen_of e, cell_of e]; exact h
theorem RowOk.mono {ρ σ : Map} {r : Row} {B N : Nat} {w : World} (h : RowOk ρ r B N w) (s : Sub ρ σ) : RowOk σ r B N w :=
  ⟨h.1, h.2.1, h.2.2.1, fun j hj => let ⟨v, a, b⟩ := h.2.2.2 j hj; ⟨v, a, b.mono s⟩⟩
theorem ER.mono {ρ σ : Map} {e : T AV} {tm : Array Value} {sz : Nat} (h : ER ρ e tm sz) (s : Sub ρ σ) : ER σ e tm sz := ⟨h.1, fun t => (h.2 t).mono s⟩
theorem MapR.mono {ρ σ : Map} {es : List (AV × AV × Nat)} {ES : List MapEntry} (h : MapR ρ es ES) (s : Sub ρ σ) : MapR σ es ES :=
  ⟨h.1, fun i p e a b => let ⟨x, y, z⟩ := h.2 i p e a b; ⟨x.mono s, y.mono s, z⟩⟩
theorem ABR.block {ρ : Map} {b : AB} {B N : Nat} {w w' : World} (h : ABR ρ b B N w) (e : w'.heap[B]? = w.heap[B]?) : ABR ρ b B N w' := by
  cases b with
  | none => trivial
  | row r => exact RowOk.block h e
  | map es c => simp only [ABR, e] at h ⊢; exact h
  | loop l => simp only [ABR, e] at h ⊢; exact h
  | dfr b => simp only [ABR, e] at h ⊢; exact h
  | sit l p => exact h
  | mit m since seen last => simp only [ABR, e] at h ⊢; exact h
  | gl r => simp only [ABR, cell_of e] at h ⊢; exact h
theorem ABR.mono {ρ σ : Map} {b : AB} {B N : Nat} {w : World} (h : ABR ρ b B N w) (s : Sub ρ σ) : ABR σ b B N w := by
  cases b with
  | none => trivial
  | row r => exact RowOk.mono h s
  | map es c => obtain ⟨ES, a, b⟩ := h; exact ⟨ES, a, b.mono s⟩
  | loop l => obtain ⟨fn, tm, D, M, a, b, c⟩ := h; exact ⟨fn, tm, D, M, a, b.mono s, s _ _ c⟩
  | dfr b => exact h
  | sit l p => exact h
  | mit m since seen last =>
    obtain ⟨M, a, b⟩ := h
    refine ⟨M, ?_, b⟩
    cases m with
    | none => exact a
    | some i => obtain ⟨C, K, x, y⟩ := a; exact ⟨C, K, s _ _ x, y⟩
  | gl r => exact fun j hj => let ⟨v, a, b⟩ := h j hj; ⟨v, a, b.mono s⟩

def upd (ρ : Map) (i : Nat) (p : Nat × Nat) : Map := fun j => if j = i then some p else ρ j
theorem upd_same (ρ : Map) (i : Nat) (p : Nat × Nat) : upd ρ i p i = some p := by simp [upd]
theorem upd_ne (ρ : Map) {i j : Nat} (p : Nat × Nat) (h : j ≠ i) : upd ρ i p j = ρ j := by simp [upd, h]
theorem upd_sub {ρ : Map} {i : Nat} {p : Nat × Nat} (h : ρ i = none) : Sub ρ (upd ρ i p) := fun j q e => by
  by_cases k : j = i
  · subst k; rw [h] at e; cases e
  · rw [upd_ne _ _ k]; exact e

/-! ## a heap's blocks -/
theorem Heap.get_put (h : Heap) (i j : Nat) (b : AB) : (h.put i b).get j = if j = i then b else h.get j := Ax.get_set _ _ _ _ _
theorem Heap.get_new (h : Heap) (j : Nat) (b : AB) : (h.new b).get j = if j = h.nxt then b else h.get j := Ax.get_set _ _ _ _ _
theorem Heap.row_of {h : Heap} {i : Nat} {r : Row} (e : h.get i = .row r) : h.row i = match r.root with | none => some r | some q => (match h.tip q with | some _ => some r | none => none) := by
  unfold Heap.row; rw [e]
  show (match r.root with | none => some r | some q => (match h.tip q with | some _ => some r | none => none)) = _
  cases r.root <;> rfl
theorem Heap.row_get {h : Heap} {i : Nat} {r : Row} (e : h.row i = some r) : h.get i = .row r ∧ h.ok i := by
  unfold Heap.row at e
  split at e
  · rename_i s hs
    have : r = s := by
      split at e
      · cases e; rfl
      · split at e
        · cases e; rfl
        · cases e
    subst this
    refine ⟨hs, ?_⟩
    simp only [Heap.ok, hs, Heap.row, e]; rfl
  · cases e
theorem Heap.ok_row {h : Heap} {i : Nat} {r : Row} (e : h.get i = .row r) : h.ok i ↔ h.row i = some r := by
  simp only [Heap.ok, e]
  rw [Heap.row_of e]
  cases r.root with
  | none => simp
  | some q => simp only []; cases h.tip q <;> simp
/-- ok hangs on a block and its chain's tip alone -/
theorem Heap.ok_same {h k : Heap} {i : Nat} (e : k.get i = h.get i) (t : ∀ r q, h.get i = .row r → r.root = some q → (k.tip q).isSome = (h.tip q).isSome) : k.ok i ↔ h.ok i := by
  unfold Heap.ok
  rw [e]
  cases hb : h.get i with
  | row r =>
    simp only []
    rw [Heap.row_of hb, Heap.row_of (e.trans hb)]
    cases hr : r.root with
    | none => simp
    | some q =>
      have := t r q hb hr
      simp only []
      cases hk : k.tip q <;> cases hh : h.tip q <;> simp_all
  | _ => simp only []

theorem HR.rowAt {ρ : Map} {h : Heap} {w : World} (hr : HR ρ h w) {i B N : Nat} {r : Row} (e : h.row i = some r) (p : ρ i = some (B, N)) : RowOk ρ r B N w := by
  obtain ⟨a, b⟩ := Heap.row_get e
  have := hr.ok i B N p b
  rw [a] at this; exact this

/-! ## a new block -/
theorem alloc_block (w : World) (o : Obj) {B : Nat} (h : B < w.heap.size) : (w.alloc o).heap[B]? = w.heap[B]? := by
  show (w.heap.push o)[B]? = _
  rw [Array.getElem?_push, if_neg (by omega)]
theorem alloc_at (w : World) (o : Obj) : (w.alloc o).heap[w.heap.size]? = some o := by
  show (w.heap.push o)[w.heap.size]? = _
  rw [Array.getElem?_push, if_pos rfl]
theorem Same.alloc (w : World) (o : Obj) : Same w (w.alloc o) := ⟨rfl, rfl, rfl, by simp⟩

theorem Good.newBlock {ρ : Map} {h : Heap} {w : World} (hr : HR ρ h w) (wf : WF h) (fr : ρ h.nxt = none) (b : AB) (o : Obj) (N : Nat) (hb : ∀ r, b = .row r → r.root = none)
    (ha : ABR (upd ρ h.nxt (w.heap.size, N)) b w.heap.size N (w.alloc o)) (hgl : ∀ r, b ≠ .gl r := by intro _ q; cases q) : Good ρ h w (upd ρ h.nxt (w.heap.size, N)) (h.new b) (w.alloc o) := by
  have hs : Sub ρ (upd ρ h.nxt (w.heap.size, N)) := upd_sub fr
  have hg : ∀ j, j ≠ h.nxt → (h.new b).get j = h.get j := fun j k => by rw [Heap.get_new, if_neg k]
  have ho : ∀ j, j ≠ h.nxt → ((h.new b).ok j ↔ h.ok j) := fun j k => Heap.ok_same (hg j k) (fun _ _ _ _ => rfl)
  have hn : (h.new b).get h.nxt = b := by rw [Heap.get_new, if_pos rfl]
  refine { sub := hs, hr := ⟨?_, ?_, ?_, ?_⟩, wf := ⟨?_, ?_, ?_, ?_⟩, nxt := Nat.le_succ _, dom := ?_, full := ?_, same := Same.alloc w o, frame := fun x hx _ => alloc_block w o hx, dead := ?_, newb := ?_, free := ?_, gl := fun j r q => (by rw [hg j (fun k => by subst k; rw [wf.fresh _ (Nat.le_refl _)] at q; cases q)]; exact q), glw := fun j r q => (by obtain ⟨M, hM⟩ := hr.gl j r q; exact alloc_block w o (hr.lt j j M hM)) }
  · intro i B M e
    by_cases k : i = h.nxt
    · subst k; rw [upd_same] at e; cases e; simp
    · rw [upd_ne _ _ k] at e
      have := hr.lt i B M e
      simp only [World.size_alloc]; omega
  · intro i B M e k
    by_cases hi : i = h.nxt
    · subst hi; rw [upd_same] at e; cases e; rw [hn]; exact ha
    · rw [upd_ne _ _ hi] at e
      rw [hg i hi]
      exact ((hr.ok i B M e ((ho i hi).1 k)).mono hs).block (alloc_block w o (hr.lt i B M e))
  · intro i j B M M' hij e1 e2 k1 k2
    by_cases hi : i = h.nxt
    · subst hi; rw [upd_same] at e1; cases e1
      rw [upd_ne _ _ (Ne.symm hij)] at e2
      exact absurd (hr.lt j _ _ e2) (Nat.lt_irrefl _)
    · by_cases hj : j = h.nxt
      · subst hj; rw [upd_same] at e2; cases e2
        rw [upd_ne _ _ hi] at e1
        exact absurd (hr.lt i _ _ e1) (Nat.lt_irrefl _)
      · rw [upd_ne _ _ hi] at e1
        rw [upd_ne _ _ hj] at e2
        obtain ⟨r, s, q, a, b, c⟩ := hr.inj i j B M M' hij e1 e2 ((ho i hi).1 k1) ((ho j hj).1 k2)
        exact ⟨r, s, q, by rw [hg i hi]; exact a, by rw [hg j hj]; exact b, c⟩
  · intro i r e
    by_cases hi : i = h.nxt
    · subst hi; rw [hn] at e; exact absurd e (hgl r)
    · rw [hg i hi] at e
      obtain ⟨M, hM⟩ := hr.gl i r e
      exact ⟨M, hs i _ hM⟩
  · intro i hi
    have hi' : h.nxt + 1 ≤ i := hi
    rw [hg i (by omega)]; exact wf.fresh i (by omega)
  · intro i r q e1 e2
    by_cases hi : i = h.nxt
    · subst hi; rw [hn] at e1; rw [hb r e1] at e2; cases e2
    · rw [hg i hi] at e1; exact Nat.lt_succ_of_lt (wf.root i r q e1 e2)
  · intro i r q t e1 e2 e3
    by_cases hi : i = h.nxt
    · subst hi; rw [hn] at e1; rw [hb r e1] at e2; cases e2
    · rw [hg i hi] at e1
      obtain ⟨s, a, c⟩ := wf.tip i r q t e1 e2 e3
      refine ⟨s, ?_, c⟩
      rw [hg t (fun k => by subst k; rw [wf.fresh _ (Nat.le_refl _)] at a; cases a)]; exact a
  · intro q hq; exact wf.tipr q (Nat.le_of_succ_le hq)
  · intro i p e
    by_cases hi : i = h.nxt
    · subst hi; exact .inr ⟨Nat.le_refl _, Nat.lt_succ_self _⟩
    · rw [upd_ne _ _ hi] at e; exact .inl e
  · intro i e1 e2
    have e2' : i < h.nxt + 1 := e2
    obtain rfl : i = h.nxt := by omega
    rw [upd_same]; rfl
  · intro i e1 e2
    have hi : i ≠ h.nxt := fun k => e1 ⟨by omega, by show i < h.nxt + 1; omega⟩
    exact fun k => e2 ((ho i hi).1 k)
  · intro i B M e1 e2
    by_cases hi : i = h.nxt
    · subst hi; rw [upd_same] at e1; cases e1; exact .inl (Nat.le_refl _)
    · rw [upd_ne _ _ hi] at e1; rw [e1] at e2; cases e2
  · intro i e1 e2
    have e2' : i < h.nxt + 1 := e2
    obtain rfl : i = h.nxt := by omega
    exact fr

/-! ## an object that is no row, turned -/
theorem putObj_at {w : World} {B : Nat} (o : Obj) (h : B < w.heap.size) : (w.putObj B o).heap[B]? = some o := World.putObj_heap_same h
theorem putObj_ne {w : World} {B C : Nat} (o : Obj) (h : C ≠ B) : (w.putObj B o).heap[C]? = w.heap[C]? := World.putObj_heap_other h
theorem Same.putObj (w : World) (B : Nat) (o : Obj) : Same w (w.putObj B o) := ⟨rfl, rfl, rfl, by simp [World.putObj]⟩

def AB.isRow : AB → Bool
  | .row _ => true
  | _ => false

theorem Good.putBlock {ρ : Map} {h : Heap} {w : World} (hr : HR ρ h w) (wf : WF h) {i B N : Nat} (hi : ρ i = some (B, N)) (b b' : AB) (o : Obj)
    (hb : h.get i = b) (h1 : b.isRow = false) (h2 : b ≠ .none) (h3 : b'.isRow = false)
    (ha : ABR ρ b' B N (w.putObj B o)) (hgl : ∀ r, b' ≠ .gl r := by intro _ q; cases q) (hgl0 : ∀ r, b ≠ .gl r := by intro _ q; cases q) : Good ρ h w ρ (h.put i b') (w.putObj B o) := by
  have hlt := hr.lt i B N hi
  have hok : h.ok i := by unfold Heap.ok; rw [hb]; cases b <;> simp_all [AB.isRow]
  have hg : ∀ j, j ≠ i → (h.put i b').get j = h.get j := fun j k => by rw [Heap.get_put, if_neg k]
  have ho : ∀ j, j ≠ i → ((h.put i b').ok j ↔ h.ok j) := fun j k => Heap.ok_same (hg j k) (fun _ _ _ _ => rfl)
  have hn : (h.put i b').get i = b' := by rw [Heap.get_put, if_pos rfl]
  have other : ∀ j C M, j ≠ i → ρ j = some (C, M) → h.ok j → C ≠ B := fun j C M hj e k hc => by
    subst hc
    obtain ⟨r, s, q, a, _⟩ := hr.inj i j C N M (Ne.symm hj) hi e hok k
    rw [hb] at a; subst a; simp [AB.isRow] at h1
  refine { sub := Sub.refl _, hr := ⟨?_, ?_, ?_, ?_⟩, wf := ⟨?_, ?_, ?_, wf.tipr⟩, nxt := Nat.le_refl _, dom := fun _ _ e => .inl e, full := fun i a b => (by have b' : i < h.nxt := b; omega), same := Same.putObj w B o, frame := ?_, dead := ?_,
           newb := fun _ _ _ e1 e2 => (by rw [e2] at e1; cases e1), free := fun i a b => (by have b' : i < h.nxt := b; omega), gl := fun j r q => (by rw [hg j (fun k => by subst k; rw [hb] at q; exact hgl0 r q)]; exact q), glw := fun j r q => (by
             have hj : j ≠ i := fun k => by subst k; rw [hb] at q; exact hgl0 r q
             obtain ⟨M, hM⟩ := hr.gl j r q
             exact putObj_ne o (other j j M hj hM (by unfold Heap.ok; rw [q]; trivial))) }
  · intro j C M e; have := hr.lt j C M e; simpa [World.putObj] using this
  · intro j C M e k
    by_cases hj : j = i
    · subst hj; rw [hi] at e; cases e; rw [hn]; exact ha
    · rw [hg j hj]
      exact (hr.ok j C M e ((ho j hj).1 k)).block (putObj_ne o (other j C M hj e ((ho j hj).1 k)))
  · intro j k C M M' hjk e1 e2 k1 k2
    by_cases hj : j = i
    · subst hj
      have hk : k ≠ j := Ne.symm hjk
      rw [hi] at e1; cases e1
      exact absurd rfl (other k B M' hk e2 ((ho k hk).1 k2))
    · by_cases hk : k = i
      · subst hk; rw [hi] at e2; cases e2
        exact absurd rfl (other j B M hj e1 ((ho j hj).1 k1))
      · obtain ⟨r, s, q, a, b, c⟩ := hr.inj j k C M M' hjk e1 e2 ((ho j hj).1 k1) ((ho k hk).1 k2)
        exact ⟨r, s, q, by rw [hg j hj]; exact a, by rw [hg k hk]; exact b, c⟩
  · intro j r e
    by_cases hj : j = i
    · subst hj; rw [hn] at e; exact absurd e (hgl r)
    · rw [hg j hj] at e; exact hr.gl j r e
  · intro j hj
    rw [hg j (fun k => by subst k; have := wf.fresh j hj; rw [hb] at this; exact h2 this)]; exact wf.fresh j hj
  · intro j r q e1 e2
    by_cases hj : j = i
    · subst hj; rw [hn] at e1; subst e1; simp [AB.isRow] at h3
    · rw [hg j hj] at e1; exact wf.root j r q e1 e2
  · intro j r q t e1 e2 e3
    by_cases hj : j = i
    · subst hj; rw [hn] at e1; subst e1; simp [AB.isRow] at h3
    · rw [hg j hj] at e1
      obtain ⟨s, a, c⟩ := wf.tip j r q t e1 e2 e3
      refine ⟨s, ?_, c⟩
      rw [hg t (fun k => by subst k; rw [hb] at a; subst a; simp [AB.isRow] at h1)]; exact a
  · intro x hx hnm
    exact putObj_ne o (fun e => hnm i N (e ▸ hi) hok)
  · intro j e1 e2
    by_cases hj : j = i
    · subst hj; exact absurd hok e2
    · exact fun k => e2 ((ho j hj).1 k)

/-! ## cells written into a row -/
theorem write_c (l : List AV) : ∀ (c : T (Option AV)) (off : Nat), putC off l c = T.put none (l.map some) c off := by
  induction l with
  | nil => intro c off; rfl
  | cons x l ih => intro c off; exact ih _ _
theorem isLeaf_get {t : T (Option AV)} (h : isLeaf t = true) (i : Nat) : t.get none i = none := by
  unfold isLeaf at h
  split at h
  · split at h
    · exact get_leaf none i
    · cases h
  · cases h

theorem lay_spec : ∀ (l p : List AV), l.length ≤ p.length → (lay l p).length = p.length ∧ ∀ j, (lay l p)[j]? = if j < l.length then l[j]? else p[j]?
  | [], p, h => ⟨rfl, fun j => by simp [lay]⟩
  | x :: l, p, h => by
    cases p with
    | nil => simp at h
    | cons y p =>
      obtain ⟨h1, h2⟩ := lay_spec l p (by simpa using h)
      have e : lay (x :: l) (y :: p) = x :: lay l p := rfl
      rw [e]
      refine ⟨by simp [h1], fun j => ?_⟩
      cases j with
      | zero => simp
      | succ j => simp only [List.getElem?_cons_succ, h2, List.length_cons, Nat.add_lt_add_iff_right]
theorem ovl_spec : ∀ (off : Nat) (l p : List AV), off + l.length ≤ p.length → (ovl off l p).length = p.length ∧ ∀ j, (ovl off l p)[j]? = if off ≤ j ∧ j < off + l.length then l[j - off]? else p[j]?
  | 0, l, p, h => by
    obtain ⟨h1, h2⟩ := lay_spec l p (by omega)
    exact ⟨h1, fun j => by rw [show ovl 0 l p = lay l p from rfl, h2]; simp⟩
  | off + 1, l, p, h => by
    cases p with
    | nil => simp at h
    | cons y p =>
      obtain ⟨h1, h2⟩ := ovl_spec off l p (by simp at h; omega)
      have e : ovl (off + 1) l (y :: p) = y :: ovl off l p := rfl
      rw [e]
      refine ⟨by simp [h1], fun j => ?_⟩
      cases j with
      | zero => simp
      | succ j =>
        simp only [List.getElem?_cons_succ, h2, Nat.add_le_add_iff_right, Nat.reduceSubDiff]
        by_cases h3 : off ≤ j ∧ j < off + l.length
        · rw [if_pos h3, if_pos ⟨h3.1, by omega⟩]
        · rw [if_neg h3, if_neg (fun q => h3 ⟨q.1, by omega⟩)]
theorem Row.write_t (r : Row) (off : Nat) (l : List AV) : (r.write off l).t = r.t ∧ (r.write off l).n = r.n ∧ (r.write off l).root = r.root := by
  obtain ⟨t, n, c, pat, root⟩ := r
  unfold Row.write
  simp only []
  split
  · split <;> exact ⟨rfl, rfl, rfl⟩
  · exact ⟨rfl, rfl, rfl⟩
theorem putC_get (t : TypeId) (n : Nat) (c : T (Option AV)) (pat : List AV) (root : Option Nat) (off : Nat) (l : List AV) (j : Nat) :
    Row.get ⟨t, n, putC off l c, pat, root⟩ j = if off ≤ j ∧ j < off + l.length then (l[j - off]?).getD .bad else Row.get ⟨t, n, c, pat, root⟩ j := by
  have hc : (putC off l c).get none j = if off ≤ j then ((l.map some)[j - off]?).getD (c.get none j) else c.get none j := by
    rw [write_c, get_put]
  unfold Row.get
  simp only []
  rw [hc]
  by_cases h1 : off ≤ j
  · rw [if_pos h1]
    by_cases h2 : j < off + l.length
    · rw [if_pos ⟨h1, h2⟩]
      have : (l.map some)[j - off]? = some (some (l[j - off]'(by omega))) := by simp [show j - off < l.length by omega]
      rw [this, List.getElem?_eq_getElem (by omega)]
      rfl
    · rw [if_neg (fun k => h2 k.2)]
      have : (l.map some)[j - off]? = none := by simp; omega
      rw [this]; rfl
  · rw [if_neg h1, if_neg (fun k => h1 k.1)]
theorem Row.write_get (r : Row) (off : Nat) (l : List AV) (j : Nat) (hj : j < r.n) : (r.write off l).get j = if off ≤ j ∧ j < off + l.length then (l[j - off]?).getD .bad else r.get j := by
  obtain ⟨t, n, c, pat, root⟩ := r
  have hj' : j < n := hj
  unfold Row.write
  simp only []
  split
  · rename_i hf
    split
    · rename_i hb
      have hb := Nat.le_of_ble_eq_true hb
      unfold flat at hf
      split at hf
      · rename_i hl
        split at hf
        · rename_i hn
          have hn := Nat.eq_of_beq_eq_true hn
          obtain ⟨h1, h2⟩ := ovl_spec off l pat (by omega)
          unfold Row.get
          simp only []
          rw [isLeaf_get hl]
          simp only []
          rw [h1, Nat.mod_eq_of_lt (show j < pat.length by omega), nth_eq, nth_eq, h2]
          by_cases h3 : off ≤ j ∧ j < off + l.length
          · rw [if_pos h3, if_pos h3, List.getElem?_eq_getElem (show j - off < l.length by omega)]; rfl
          · rw [if_neg h3, if_neg h3]
        · cases hf
      · cases hf
    · exact putC_get t n c pat root off l j
  · exact putC_get t n c pat root off l j

theorem Heap.mine_spec {h h1 : Heap} {i : Nat} {r : Row} (e : h.mine i = some (r, h1)) :
    ∃ s, h.get i = .row s ∧ h.ok i ∧ r = { s with root := none } ∧ h1.nxt = h.nxt ∧ h1.blk = h.blk ∧
      ((s.root = none ∧ h1.tips = h.tips) ∨ ∃ q, s.root = some q ∧ h.tip q = some i ∧ h1.tips = h.tips.set none q none) := by
  unfold Heap.mine at e
  split at e
  · rename_i s hs
    refine ⟨s, hs, ?_⟩
    split at e
    · rename_i hr
      cases e
      refine ⟨(Heap.ok_row hs).2 (by rw [Heap.row_of hs, hr]), ?_, rfl, rfl, .inl ⟨hr, rfl⟩⟩
      cases r; simp_all
    · rename_i q hr
      split at e
      · rename_i t ht
        split at e
        · rename_i hb
          cases e
          have : t = i := by simpa using hb
          subst this
          refine ⟨(Heap.ok_row hs).2 (by rw [Heap.row_of hs, hr]; simp only [ht]), rfl, rfl, rfl, .inr ⟨q, hr, ht, rfl⟩⟩
        · cases e
      · cases e
  · cases e

theorem Good.writeAny {ρ : Map} {h h1 : Heap} {w w' : World} (hr : HR ρ h w) (wf : WF h) {i B N : Nat} (hi : ρ i = some (B, N)) {r : Row} {b' : AB} (hm : h.mine i = some (r, h1))
    (e3 : ∀ x, b' = .row x → x.root = none) (hgl : ∀ x, b' ≠ .gl x) (hrow : ABR ρ b' B N w') (hbl : ∀ C, C ≠ B → w'.heap[C]? = w.heap[C]?) (hs : Same w w') (hsz : w'.heap.size = w.heap.size) :
    Good ρ h w ρ (h1.put i b') w' := by
  obtain ⟨s, hs0, hok, hrs, hn1, hb1, htip⟩ := Heap.mine_spec hm
  have hg : ∀ j, j ≠ i → (h1.put i b').get j = h.get j := fun j k => by
    rw [Heap.get_put, if_neg k]; simp only [Heap.get, hb1]
  have hn : (h1.put i b').get i = b' := by rw [Heap.get_put, if_pos rfl]
  have htp : ∀ q, (h1.put i b').tip q = h1.tip q := fun _ => rfl
  have tsub : ∀ q t, h1.tip q = some t → h.tip q = some t := by
    intro q t e
    rcases htip with ⟨_, ht⟩ | ⟨q', _, _, ht⟩
    · simp only [Heap.tip, ht] at e ⊢; exact e
    · simp only [Heap.tip, ht] at e ⊢
      rw [get_set] at e
      split at e
      · cases e
      · exact e
  have okb : ∀ j, j ≠ i → (h1.put i b').ok j → h.ok j := by
    intro j k o
    unfold Heap.ok at *
    rw [hg j k] at o
    cases hb : h.get j with
    | row x =>
      rw [hb] at o
      simp only [] at o ⊢
      rw [Heap.row_of ((hg j k).trans hb)] at o
      rw [Heap.row_of hb]
      cases hx : x.root with
      | none => simp
      | some q =>
        rw [hx] at o
        simp only [htp] at o ⊢
        cases ht : h1.tip q with
        | none => rw [ht] at o; cases o
        | some t => rw [tsub q t ht]; rfl
    | _ => simp_all
  have other : ∀ j C M, j ≠ i → ρ j = some (C, M) → (h1.put i b').ok j → C ≠ B := fun j C M hj e k hc => by
    subst hc
    obtain ⟨x, y, q, a, b, c, d⟩ := hr.inj i j C N M (Ne.symm hj) hi e hok (okb j hj k)
    rw [hs0] at a; cases a
    rcases htip with ⟨hx, _⟩ | ⟨q', hx, _, ht⟩
    · rw [hx] at c; cases c
    · rw [hx] at c; cases c
      have := (Heap.ok_row ((hg j hj).trans b)).1 k
      have hz : (h1.put i b').tip q = none := by show T.get none h1.tips q = none; rw [ht, get_set_same]
      rw [Heap.row_of ((hg j hj).trans b), d] at this
      simp only [hz] at this
      cases this
  have hnx : (h1.put i b').nxt = h.nxt := hn1
  refine { sub := Sub.refl _, hr := ⟨?_, ?_, ?_, ?_⟩, wf := ⟨?_, ?_, ?_, ?_⟩, nxt := Nat.le_of_eq hnx.symm, dom := fun _ _ e => .inl e, full := fun i a b => (by omega), same := hs, frame := ?_, dead := ?_,
           newb := fun _ _ _ e1 e2 => (by rw [e2] at e1; cases e1), free := fun i a b => (by omega), gl := fun j x q => (by rw [hg j (fun k => by subst k; rw [hs0] at q; cases q)]; exact q), glw := fun j x q => (by
             have hj : j ≠ i := fun k => by subst k; rw [hs0] at q; cases q
             obtain ⟨M, hM⟩ := hr.gl j x q
             exact hbl j (fun e => other j j M hj hM (by unfold Heap.ok; rw [hg j hj, q]; trivial) e)) }
  · intro j C M e; have := hr.lt j C M e; omega
  · intro j C M e k
    by_cases hj : j = i
    · subst hj; rw [hi] at e; cases e; rw [hn]; exact hrow
    · rw [hg j hj]
      exact (hr.ok j C M e (okb j hj k)).block (hbl C (other j C M hj e k))
  · intro j k C M M' hjk e1 e2 k1 k2
    by_cases hj : j = i
    · subst hj
      rw [hi] at e1; cases e1
      exact absurd rfl (other k B M' (Ne.symm hjk) e2 k2)
    · by_cases hk : k = i
      · subst hk; rw [hi] at e2; cases e2
        exact absurd rfl (other j B M hj e1 k1)
      · obtain ⟨x, y, q, a, b, c⟩ := hr.inj j k C M M' hjk e1 e2 (okb j hj k1) (okb k hk k2)
        exact ⟨x, y, q, by rw [hg j hj]; exact a, by rw [hg k hk]; exact b, c⟩
  · intro j x e
    by_cases hj : j = i
    · subst hj; rw [hn] at e; exact absurd e (hgl x)
    · rw [hg j hj] at e; exact hr.gl j x e
  · intro j hj
    have hj' : h.nxt ≤ j := by omega
    rw [hg j (fun k => by subst k; have := wf.fresh j hj'; rw [hs0] at this; cases this)]; exact wf.fresh j hj'
  · intro j x q e1 e2
    by_cases hj : j = i
    · subst hj; rw [hn] at e1; rw [e3 x e1] at e2; cases e2
    · rw [hg j hj] at e1; rw [hnx]; exact wf.root j x q e1 e2
  · intro j x q t e1 e2 e4
    by_cases hj : j = i
    · subst hj; rw [hn] at e1; rw [e3 x e1] at e2; cases e2
    · rw [hg j hj] at e1
      obtain ⟨y, a, c, d⟩ := wf.tip j x q t e1 e2 (tsub q t e4)
      refine ⟨y, ?_, c, d⟩
      rw [hg t (fun k => by
        subst k
        rw [hs0] at a; cases a
        rcases htip with ⟨hx, _⟩ | ⟨q', hx, _, ht⟩
        · rw [hx] at c; cases c
        · rw [hx] at c; cases c
          have hz : (h1.put t b').tip q = none := by show T.get none h1.tips q = none; rw [ht, get_set_same]
          rw [hz] at e4
          cases e4)]; exact a
  · intro q hq
    have := wf.tipr q (by omega)
    rcases hc : h1.tip q with _ | t
    · rw [htp]; exact hc
    · rw [tsub q t hc] at this; cases this
  · intro x hx hnm
    exact hbl x (fun e => hnm i N (e ▸ hi) hok)
  · intro j e1 e2
    by_cases hj : j = i
    · subst hj; exact absurd hok e2
    · exact fun k => e2 (okb j hj k)

theorem Good.writeRow0 {ρ : Map} {h h1 : Heap} {w w' : World} (hr : HR ρ h w) (wf : WF h) {i B N : Nat} (hi : ρ i = some (B, N)) {r r' : Row} (hm : h.mine i = some (r, h1))
    (e3 : r'.root = none) (hrow : RowOk ρ r' B N w') (hbl : ∀ C, C ≠ B → w'.heap[C]? = w.heap[C]?) (hs : Same w w') (hsz : w'.heap.size = w.heap.size) :
    Good ρ h w ρ (h1.put i (.row r')) w' :=
  Good.writeAny hr wf hi hm (b' := .row r') (fun x q => by cases q; exact e3) (fun x q => by cases q) hrow hbl hs hsz

theorem Good.writeRow {ρ : Map} {h h1 : Heap} {w w' : World} (hr : HR ρ h w) (wf : WF h) {i B N : Nat} (hi : ρ i = some (B, N)) {r r' : Row} (hm : h.mine i = some (r, h1))
    (e1 : r'.t = r.t) (e2 : r'.n = r.n) (e3 : r'.root = none) (hrow : RowOk ρ r' B N w') (hbl : ∀ C, C ≠ B → w'.heap[C]? = w.heap[C]?) (hs : Same w w') (hsz : w'.heap.size = w.heap.size) :
    Good ρ h w ρ (h1.put i (.row r')) w' :=
  Good.writeRow0 hr wf hi hm e3 hrow hbl hs hsz

/-! ## a row's tip grown: in place, or in a new block -/
noncomputable def growTip (h : Heap) (i : Nat) (r r2 : Row) (q : Nat) : Heap :=
  ⟨h.nxt + 1, (h.blk.set .none i (.row { r with root := some q })).set .none h.nxt (.row r2), h.tips.set none q (some h.nxt), i :: h.nxt :: q :: h.log⟩

theorem Good.growTip {ρ : Map} {h : Heap} {w w' : World} (hr : HR ρ h w) (wf : WF h) (fr : ρ h.nxt = none) {i B N : Nat} (hi : ρ i = some (B, N)) {r r2 : Row} {q : Nat} (hg0 : h.get i = .row r)
    (hq : (r.root = none ∧ q = h.nxt) ∨ (r.root = some q ∧ h.tip q = some i)) (e2 : r2.root = some q) (e3 : r.n ≤ r2.n)
    (B' N' : Nat) (hrow2 : RowOk (upd ρ h.nxt (B', N')) r2 B' N' w')
    (hcase : (B' = B ∧ N' = N ∧ w'.heap.size = w.heap.size ∧ (∀ C, C ≠ B → w'.heap[C]? = w.heap[C]?) ∧ w'.shape? B = w.shape? B ∧ (∀ j, w'.frozen? ⟨B, j, none⟩ = w.frozen? ⟨B, j, none⟩) ∧ (∀ j, j < r.n → w'.cell? ⟨B, j, none⟩ = w.cell? ⟨B, j, none⟩)) ∨
             (B' = w.heap.size ∧ w'.heap.size = w.heap.size + 1 ∧ ∀ C, C < w.heap.size → w'.heap[C]? = w.heap[C]?)) (hs : Same w w') :
    Good ρ h w (upd ρ h.nxt (B', N')) (growTip h i r r2 q) w' := by
  have hsub : Sub ρ (upd ρ h.nxt (B', N')) := upd_sub fr
  have hin : i ≠ h.nxt := fun k => by subst k; rw [fr] at hi; cases hi
  have hi0 : i < h.nxt := by
    rcases Nat.lt_or_ge i h.nxt with k | k
    · exact k
    · rw [wf.fresh i k] at hg0; cases hg0
  have hokI : h.ok i := (Heap.ok_row hg0).2 (by
    rw [Heap.row_of hg0]
    rcases hq with ⟨a, _⟩ | ⟨a, b⟩
    · rw [a]
    · rw [a]; simp only [b])
  have gi : (Go.Ax.growTip h i r r2 q).get i = .row { r with root := some q } := by
    show T.get _ (T.set _ _ _ _) i = _
    rw [get_set_ne _ _ hin, get_set_same]
  have gn : (Go.Ax.growTip h i r r2 q).get h.nxt = .row r2 := by
    show T.get _ (T.set _ _ _ _) h.nxt = _
    rw [get_set_same]
  have gj : ∀ j, j ≠ i → j ≠ h.nxt → (Go.Ax.growTip h i r r2 q).get j = h.get j := fun j a b => by
    show T.get _ (T.set _ _ _ _) j = _
    rw [get_set_ne _ _ b, get_set_ne _ _ a]; rfl
  have tq : (Go.Ax.growTip h i r r2 q).tip q = some h.nxt := get_set_same _ _ _ _
  have tj : ∀ x, x ≠ q → (Go.Ax.growTip h i r r2 q).tip x = h.tip x := fun x a => get_set_ne _ _ a _
  have okI : (Go.Ax.growTip h i r r2 q).ok i := (Heap.ok_row gi).2 (by rw [Heap.row_of gi]; simp only [tq])
  have okN : (Go.Ax.growTip h i r r2 q).ok h.nxt := (Heap.ok_row gn).2 (by rw [Heap.row_of gn, e2]; simp only [tq])
  have rootne : ∀ j x y, h.get j = .row x → x.root = some y → r.root = none → q = h.nxt → y ≠ q := fun j x y a b _ d e => by
    have := wf.root j x y a b; omega
  have okj : ∀ j, j ≠ i → j ≠ h.nxt → ((Go.Ax.growTip h i r r2 q).ok j ↔ h.ok j) := fun j a b => Heap.ok_same (gj j a b) (fun x y c d => by
    by_cases e : y = q
    · subst e
      rw [tq]
      rcases hq with ⟨h1, h2⟩ | ⟨h1, h2⟩
      · exact absurd rfl (rootne j x y c d h1 h2)
      · rw [h2]; rfl
    · rw [tj y e])
  -- whoever shares the row's block is of its chain
  have share : ∀ j M, j ≠ i → ρ j = some (B, M) → h.ok j → ∃ x, h.get j = .row x ∧ x.root = some q ∧ x.n ≤ r.n := fun j M hj e k => by
    obtain ⟨x, y, p, a, b, c, d⟩ := hr.inj i j B N M (Ne.symm hj) hi e hokI k
    rw [hg0] at a; cases a
    rcases hq with ⟨h1, _⟩ | ⟨h1, h2⟩
    · rw [h1] at c; cases c
    · rw [h1] at c; cases c
      obtain ⟨s, s1, _, s3⟩ := wf.tip j y q i b d h2
      rw [hg0] at s1; cases s1
      exact ⟨y, b, d, s3⟩
  have rowI := hr.ok i B N hi hokI
  rw [hg0] at rowI
  -- a row of the block, short enough, is as it was
  have keep : ∀ (x : Row), RowOk ρ x B N w → x.n ≤ r.n → RowOk ρ x B N w' := fun x hx hle => by
    rcases hcase with ⟨_, _, _, _, c1, c2, c3⟩ | ⟨_, _, c⟩
    · refine ⟨by rw [c1]; exact hx.1, hx.2.1, fun j hj => by rw [c2]; exact hx.2.2.1 j hj, fun j hj => ?_⟩
      rw [c3 j (by omega)]; exact hx.2.2.2 j hj
    · exact hx.block (c B (hr.lt i B N hi))
  have blk : ∀ C, C < w.heap.size → C ≠ B → w'.heap[C]? = w.heap[C]? := fun C a b => by
    rcases hcase with ⟨_, _, _, c, _⟩ | ⟨_, _, c⟩
    · exact c C b
    · exact c C a
  have hnx : (Go.Ax.growTip h i r r2 q).nxt = h.nxt + 1 := rfl
  refine { sub := hsub, hr := ⟨?_, ?_, ?_, ?_⟩, wf := ⟨?_, ?_, ?_, ?_⟩, nxt := Nat.le_succ _, dom := ?_, full := ?_, same := hs, frame := ?_, dead := ?_, newb := ?_, free := ?_, gl := fun j x z => (by rw [gj j (fun k => by subst k; rw [hg0] at z; cases z) (fun k => by subst k; rw [wf.fresh _ (Nat.le_refl _)] at z; cases z)]; exact z), glw := fun j x z => (by
    have hji : j ≠ i := fun k => by subst k; rw [hg0] at z; cases z
    obtain ⟨M, hM⟩ := hr.gl j x z
    refine blk j (hr.lt j j M hM) (fun e => ?_)
    subst e
    obtain ⟨y, y1, _⟩ := share j M hji hM (by unfold Heap.ok; rw [z]; trivial)
    rw [z] at y1; cases y1) }
  · intro j C M e
    by_cases k : j = h.nxt
    · subst k; rw [upd_same] at e; cases e
      rcases hcase with ⟨a, _, b, _⟩ | ⟨a, b, _⟩
      · have := hr.lt i B N hi; omega
      · omega
    · rw [upd_ne _ _ k] at e
      have := hr.lt j C M e
      have := hs.size; omega
  · intro j C M e k
    by_cases hj : j = h.nxt
    · subst hj; rw [upd_same] at e; cases e; rw [gn]; exact hrow2
    · rw [upd_ne _ _ hj] at e
      by_cases hji : j = i
      · subst hji; rw [hi] at e; cases e; rw [gi]
        exact RowOk.mono (keep { r with root := some q } rowI (Nat.le_refl _)) hsub
      · rw [gj j hji hj]
        have k0 := (okj j hji hj).1 k
        by_cases hC : C = B
        · subst hC
          obtain ⟨x, a, _, d⟩ := share j M hji e k0
          have hx := hr.ok j C M e k0
          rw [a] at hx ⊢
          have hNM : M = N := by
            have h1 : w.shape? C = some (x.t, M) := hx.1
            have h2 : w.shape? C = some (r.t, N) := rowI.1
            have h3 := h1.symm.trans h2
            simp at h3; exact h3.2
          subst hNM
          exact RowOk.mono (keep x hx d) hsub
        · exact ((hr.ok j C M e k0).mono hsub).block (blk C (hr.lt j C M e) hC)
  · intro j k C M M' hjk e1 e2' k1 k2
    by_cases hj : j = h.nxt
    · subst hj
      rw [upd_same] at e1; cases e1
      rw [upd_ne _ _ (Ne.symm hjk)] at e2'
      rcases hcase with ⟨a, _⟩ | ⟨a, _⟩
      · subst a
        by_cases hk : k = i
        · subst hk; exact ⟨r2, _, q, gn, gi, e2, rfl⟩
        · obtain ⟨x, a, b, _⟩ := share k M' hk e2' ((okj k hk (Ne.symm hjk)).1 k2)
          exact ⟨r2, x, q, gn, by rw [gj k hk (Ne.symm hjk)]; exact a, e2, b⟩
      · subst a; exact absurd (hr.lt k _ _ e2') (Nat.lt_irrefl _)
    · rw [upd_ne _ _ hj] at e1
      by_cases hk : k = h.nxt
      · subst hk
        rw [upd_same] at e2'; cases e2'
        rcases hcase with ⟨a, _⟩ | ⟨a, _⟩
        · subst a
          by_cases hji : j = i
          · subst hji; exact ⟨_, r2, q, gi, gn, rfl, e2⟩
          · obtain ⟨x, a, b, _⟩ := share j M hji e1 ((okj j hji hj).1 k1)
            exact ⟨x, r2, q, by rw [gj j hji hj]; exact a, gn, b, e2⟩
        · subst a; exact absurd (hr.lt j _ _ e1) (Nat.lt_irrefl _)
      · rw [upd_ne _ _ hk] at e2'
        by_cases hji : j = i
        · subst hji
          rw [hi] at e1; cases e1
          obtain ⟨x, a, b, _⟩ := share k M' (Ne.symm hjk) e2' ((okj k (Ne.symm hjk) hk).1 k2)
          exact ⟨_, x, q, gi, by rw [gj k (Ne.symm hjk) hk]; exact a, rfl, b⟩
        · by_cases hki : k = i
          · subst hki
            rw [hi] at e2'; cases e2'
            obtain ⟨x, a, b, _⟩ := share j M hji e1 ((okj j hji hj).1 k1)
            exact ⟨x, _, q, by rw [gj j hji hj]; exact a, gi, b, rfl⟩
          · obtain ⟨x, y, p, a, b, c⟩ := hr.inj j k C M M' hjk e1 e2' ((okj j hji hj).1 k1) ((okj k hki hk).1 k2)
            exact ⟨x, y, p, by rw [gj j hji hj]; exact a, by rw [gj k hki hk]; exact b, c⟩
  · intro j x e
    by_cases hj : j = h.nxt
    · subst hj; rw [gn] at e; cases e
    · by_cases hji : j = i
      · subst hji; rw [gi] at e; cases e
      · rw [gj j hji hj] at e
        obtain ⟨M, hM⟩ := hr.gl j x e
        exact ⟨M, hsub _ _ hM⟩
  · intro j hj
    rw [hnx] at hj
    rw [gj j (by omega) (by omega)]; exact wf.fresh j (by omega)
  · intro j x y a b
    rw [hnx]
    have hqn : q < h.nxt + 1 := by
      rcases hq with ⟨_, c⟩ | ⟨c, _⟩
      · omega
      · have := wf.root i r q hg0 c; omega
    by_cases hj : j = h.nxt
    · subst hj; rw [gn] at a; cases a; rw [e2] at b; cases b; exact hqn
    · by_cases hji : j = i
      · subst hji; rw [gi] at a; cases a; cases b; exact hqn
      · rw [gj j hji hj] at a; have := wf.root j x y a b; omega
  · intro j x y t a b c
    by_cases hy : y = q
    · subst hy
      rw [tq] at c; cases c
      refine ⟨r2, gn, e2, ?_⟩
      by_cases hj : j = h.nxt
      · subst hj; rw [gn] at a; cases a; exact Nat.le_refl _
      · by_cases hji : j = i
        · subst hji; rw [gi] at a; cases a; exact e3
        · rw [gj j hji hj] at a
          rcases hq with ⟨h1, h2⟩ | ⟨h1, h2⟩
          · exact absurd rfl (rootne j x y a b h1 h2)
          · obtain ⟨s, s1, _, s3⟩ := wf.tip j x y i a b h2
            rw [hg0] at s1; cases s1; omega
    · rw [tj y hy] at c
      by_cases hj : j = h.nxt
      · subst hj; rw [gn] at a; cases a; rw [e2] at b; cases b; exact absurd rfl hy
      · by_cases hji : j = i
        · subst hji; rw [gi] at a; cases a; cases b; exact absurd rfl hy
        · rw [gj j hji hj] at a
          obtain ⟨s, s1, s2, s3⟩ := wf.tip j x y t a b c
          refine ⟨s, ?_, s2, s3⟩
          have t1 : t ≠ h.nxt := fun e => by subst e; rw [wf.fresh _ (Nat.le_refl _)] at s1; cases s1
          have t2 : t ≠ i := fun e => by
            subst e; rw [hg0] at s1; cases s1
            rcases hq with ⟨h1, _⟩ | ⟨h1, _⟩
            · rw [h1] at s2; cases s2
            · rw [h1] at s2; cases s2; exact hy rfl
          rw [gj t t2 t1]; exact s1
  · intro y hy
    rw [hnx] at hy
    have : y ≠ q := fun e => by
      subst e
      rcases hq with ⟨_, c⟩ | ⟨c, _⟩
      · omega
      · have := wf.root i r y hg0 c; omega
    rw [tj y this]; exact wf.tipr y (by omega)
  · intro j p e
    by_cases hj : j = h.nxt
    · subst hj; exact .inr ⟨Nat.le_refl _, Nat.lt_succ_self _⟩
    · rw [upd_ne _ _ hj] at e; exact .inl e
  · intro j a b
    rw [hnx] at b
    obtain rfl : j = h.nxt := by omega
    rw [upd_same]; rfl
  · intro x hx hnm
    exact blk x hx (fun e => hnm i N (e ▸ hi) hokI)
  · intro j a b
    rw [hnx] at a
    have hj : j ≠ h.nxt := fun k => a ⟨by omega, by omega⟩
    by_cases hji : j = i
    · subst hji; exact absurd hokI b
    · exact fun k => b ((okj j hji hj).1 k)
  · intro j C M a b
    by_cases hj : j = h.nxt
    · subst hj; rw [upd_same] at a; cases a
      rcases hcase with ⟨c, _⟩ | ⟨c, _⟩
      · subst c; exact .inr ⟨i, N, hi, hokI⟩
      · exact .inl (Nat.le_of_eq c.symm)
    · rw [upd_ne _ _ hj] at a; rw [a] at b; cases b
  · intro j a b
    rw [hnx] at b
    obtain rfl : j = h.nxt := by omega
    exact fr
end Go.Ax
