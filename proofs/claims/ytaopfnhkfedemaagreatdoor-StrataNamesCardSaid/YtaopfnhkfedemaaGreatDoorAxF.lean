/-
  AxF: each operation that reads: the evaluator's answer is the model's.
-/
import Derived.Test.YtaopfnhkfedemaaGreatDoorAxE
import Derived.Laws.Entries
import Derived.Laws.Cells
import Derived.WalkLawsBesides
set_option linter.unusedVariables false
set_option linter.unusedSimpArgs false
namespace Go.Ax

theorem beqF {a b : Nat} (h : a ≠ b) : Nat.beq a b = false := by cases e : Nat.beq a b; rfl; exact absurd (Nat.eq_of_beq_eq_true e) h
theorem beqT {a b : Nat} (h : Nat.beq a b = true) : a = b := Nat.eq_of_beq_eq_true h
theorem beqN {a b : Nat} (h : Nat.beq a b = false) : a ≠ b := Nat.ne_of_beq_eq_false h
theorem bleT {a b : Nat} (h : Nat.ble a b = true) : a ≤ b := Nat.le_of_ble_eq_true h

structure CtxOk (c : Ctx) : Prop where
  tys : ∀ t i, c.info t = some i → c.P.info? t = some i
  fns : ∀ (f : Nat) fn, c.fns.get none f = some fn → c.P.funcs[f]? = some fn
  names : ∀ (f : Nat) fn, c.P.funcs[f]? = some fn → (fn.name == "runtime.NumGoroutine") = false
  eqs : ∀ t, c.eqs.get false t = true → c.P.stoodInHeld t = false ∧ c.P.eqGuardType c.P.depth t = false ∧ ∀ fs, c.P.underlying t = some (.struct fs) → ∀ f ∈ fs.toList, f.name ≠ "_"

section
variable {c : Ctx} (k : CtxOk c)
include k

theorem under_eq {t : TypeId} {d : TypeDesc} (h : c.under t = some d) : c.P.underlying t = some d := by
  unfold Ctx.under at h
  unfold Program.underlying
  cases hi : c.info t with
  | none => rw [hi] at h; cases h
  | some i =>
    rw [hi] at h
    rw [k.tys t i hi]
    obtain ⟨desc, _, _, _, _, _, _, _, _, _⟩ := i
    simp only [] at h ⊢
    cases desc with
    | named n u =>
      simp only [] at h ⊢
      cases hu : c.info u with
      | none => rw [hu] at h; cases h
      | some j => rw [hu] at h; rw [k.tys u j hu]; exact h
    | _ => exact h

theorem run_under {t : TypeId} {d : TypeDesc} (h : c.under t = some d) (w : World) : (underlying t).run c.P w = .ok d w := run_underlying (under_eq k h) w
theorem run_info {t : TypeId} {i : TypeInfo} (h : c.info t = some i) (w : World) : (typeInfo t).run c.P w = .ok i w := by
  simp [typeInfo, k.tys t i h]
theorem run_size {t : TypeId} {s : Nat} (h : c.size t = some s) (w : World) : (sizeOf t).run c.P w = .ok s w := by
  unfold Ctx.size at h
  cases hi : c.info t with
  | none => rw [hi] at h; cases h
  | some i => rw [hi] at h; cases h; simp [sizeOf, run_info k hi]
theorem run_isAggA {t : TypeId} {b : Bool} (h : c.isAgg t = some b) (w : World) : (isAgg t).run c.P w = .ok b w := by
  unfold Ctx.isAgg at h
  cases hu : c.under t with
  | none => rw [hu] at h; cases h
  | some d =>
    rw [hu] at h
    unfold isAgg
    rw [Sem.run_bind, run_under k hu]
    cases d <;> simp_all
omit k in
theorem ofV0_ok (ρ : Map) (v : Value) : VR ρ (ofV0 v) v := by
  cases v with
  | string s =>
    simp only [ofV0, VR, bs]
    congr 1
    obtain ⟨⟨l⟩⟩ := s
    congr 1
    simp [List.map_map, Function.comp_def]
  | pointer a => cases a <;> simp [ofV0, VR]
  | slice a l c =>
    cases a with
    | some _ => simp [ofV0, VR]
    | none =>
      unfold ofV0
      by_cases h1 : l = 0
      · by_cases h2 : c = 0
        · subst h1; subst h2; simp [VR]
        · have e2 : Nat.beq c 0 = false := beqF h2
          simp only [e2]; subst h1; simp [VR]
      · have e1 : Nat.beq l 0 = false := beqF h1
        simp only [e1]; simp [VR]
  | map r => cases r <;> simp [ofV0, VR]
  | _ => simp [ofV0, VR]
omit k in
theorem ofV0s_ok (ρ : Map) (l : List Value) : VRs ρ (l.map ofV0) l := by
  induction l with
  | nil => simp [VRs]
  | cons a l ih => simp only [List.map_cons, VRs]; exact ⟨_, _, ofV0_ok ρ a, ih, rfl⟩
omit k in
theorem ofV_ok (ρ : Map) (v : Value) : VR ρ (ofV v) v := by
  cases v with
  | agg cs => simp only [ofV, VR]; exact ⟨_, ofV0s_ok ρ _, by simp⟩
  | tuple cs => simp only [ofV, VR]; exact ⟨_, ofV0s_ok ρ _, by simp⟩
  | iface t v => simp only [ofV, VR]; exact ⟨_, ofV0_ok ρ _, rfl⟩
  | _ => simp only [ofV]; exact ofV0_ok ρ _
omit k in
theorem ev_ok {ρ : Map} {e : T AV} {a : Act} {sz : Nat} (h : ER ρ e a.tmps sz) (x : Operand) : VR ρ (ev e x) (a.eval x) := by
  cases x with
  | tmp t => exact h.2 t
  | const v => exact ofV_ok ρ v
  | global g => trivial
  | func f => simp only [ev, VR, FR, Act.eval]; exact ⟨_, [], [], rfl, by simp [VRs], by simp [VRs], rfl⟩
omit k in
theorem evs_ok {ρ : Map} {e : T AV} {a : Act} {sz : Nat} (h : ER ρ e a.tmps sz) (l : List Operand) : VRs ρ (l.map (ev e)) (l.map a.eval) :=
  VRs.map _ _ _ fun x _ => ev_ok h x

theorem run_zero {t : TypeId} {z : AV} (h : c.zero t = some z) (ρ : Map) : ∃ v, (∀ w, (zeroValue t).run c.P w = .ok v w) ∧ VR ρ z v ∧ z = ofV v := by
  unfold Ctx.zero at h
  cases hi : c.info t with
  | none => rw [hi] at h; cases h
  | some i =>
    rw [hi] at h
    simp only [] at h
    cases hz : i.zero with
    | none => rw [hz] at h; cases h
    | some v =>
      rw [hz] at h; cases h
      exact ⟨v, fun w => by simp [zeroValue, run_info k hi, hz], ofV_ok ρ v, rfl⟩

/-! ### cells -/
omit k in
theorem add_off (B off j : Nat) : (⟨B, off, none⟩ : Addr).add j = ⟨B, off + j, none⟩ := by
  unfold Addr.add; split <;> simp_all
omit k in
theorem Row.readS_succ (r : Row) (off n : Nat) : r.readS off (n + 1) = r.get off :: r.readS (off + 1) n := rfl
omit k in
theorem Row.readS_length (r : Row) : ∀ (n off : Nat), (r.readS off n).length = n
  | 0, off => rfl
  | n + 1, off => by rw [Row.readS_succ, List.length_cons, Row.readS_length r n]
omit k in
theorem Row.readS_at (r : Row) : ∀ (n off j : Nat), j < n → (r.readS off n)[j]? = some (r.get (off + j))
  | n + 1, off, 0, _ => by rw [Row.readS_succ]; simp
  | n + 1, off, j + 1, h => by
    rw [Row.readS_succ, List.getElem?_cons_succ, Row.readS_at r n (off + 1) j (by omega)]
    congr 2; omega
omit k in
theorem Row.read_eq (r : Row) (off n : Nat) : r.read off n = r.readS off n := by
  unfold Row.read
  split
  · rename_i hl
    split
    · rename_i hb
      have hb := Nat.le_of_ble_eq_true hb
      have key : (r.pat.drop off).take n = r.readS off n := by
        apply List.ext_getElem?
        intro j
        by_cases hj : j < n
        · rw [Row.readS_at r n off j hj, List.getElem?_take, if_pos hj, List.getElem?_drop]
          unfold Row.get
          rw [isLeaf_get hl]
          simp only []
          rw [Nat.mod_eq_of_lt (show off + j < r.pat.length by omega), nth_eq, List.getElem?_eq_getElem (show off + j < r.pat.length by omega)]
        · rw [List.getElem?_eq_none (by simp; omega), List.getElem?_eq_none (by rw [Row.readS_length]; omega)]
      split
      · rename_i ho
        have ho := Nat.eq_of_beq_eq_true ho
        subst ho
        rw [List.drop_zero] at key
        split
        · rename_i hn
          have hn := Nat.eq_of_beq_eq_true hn
          rw [← key, hn, List.take_length]
        · exact key
      · rw [← key, drops_eq, List.drop_drop, show Nat.div off 8 = off / 8 from rfl, show Nat.mod off 8 = off % 8 from rfl]
        congr 2
        omega
    · rfl
  · rfl
omit k in
theorem Row.read_succ (r : Row) (off n : Nat) : r.read off (n + 1) = r.get off :: r.read (off + 1) n := by rw [Row.read_eq, Row.read_eq, Row.readS_succ]
omit k in
theorem Row.read_length (r : Row) (n off : Nat) : (r.read off n).length = n := by rw [Row.read_eq, Row.readS_length]
omit k in
theorem RowC.reads {ρ : Map} {r : Row} {B : Nat} {w : World} (h : ∀ j, j < r.n → ∃ v, w.cell? ⟨B, j, none⟩ = some v ∧ VR ρ (r.get j) v) : ∀ (n off : Nat), off + n ≤ r.n →
    ∃ L, VRs ρ (r.read off n) L ∧ L.length = n ∧ ∀ (j : Nat) v, L[j]? = some v → w.cell? ⟨B, off + j, none⟩ = some v
  | 0, off, _ => ⟨[], by rw [Row.read_eq, show r.readS off 0 = [] from rfl]; simp [VRs], rfl, fun j v e => by simp at e⟩
  | n + 1, off, hn => by
    obtain ⟨v, a, b⟩ := h off (by omega)
    obtain ⟨L, x, y, z⟩ := RowC.reads h n (off + 1) (by omega)
    refine ⟨v :: L, ?_, by simp [y], fun j u e => ?_⟩
    · rw [Row.read_succ]; simp only [VRs]; exact ⟨v, L, b, x, rfl⟩
    · cases j with
      | zero => simp at e; subst e; exact a
      | succ j =>
        simp at e
        have := z j u e
        rwa [show off + 1 + j = off + (j + 1) by omega] at this
omit k in
theorem RowOk.reads {ρ : Map} {r : Row} {B N : Nat} {w : World} (h : RowOk ρ r B N w) (n off : Nat) (hn : off + n ≤ r.n) :
    ∃ L, VRs ρ (r.read off n) L ∧ L.length = n ∧ ∀ (j : Nat) v, L[j]? = some v → w.cell? ⟨B, off + j, none⟩ = some v := RowC.reads h.2.2.2 n off hn
omit k in
theorem HR.glAt {ρ : Map} {h : Heap} {w : World} (hr : HR ρ h w) {g : Nat} {r : Row} (e : glRow h g = some r) : ∀ j, j < r.n → ∃ v, w.cell? ⟨g, j, none⟩ = some v ∧ VR ρ (r.get j) v := by
  unfold glRow at e
  split at e
  · rename_i s hg
    cases e
    obtain ⟨N, hN⟩ := hr.gl g r hg
    have := hr.ok g g N hN (by unfold Heap.ok; rw [hg]; trivial)
    rw [hg] at this; exact this
  · cases e

theorem load_ok {ρ : Map} {h : Heap} {w : World} (hr : HR ρ h w) {t : TypeId} {a v : AV} {x : Value} (e : oLoad c h t a = some v) (hx : VR ρ a x) :
    ∃ y, (Instr.loadAt t x).run c.P w = .ok y w ∧ VR ρ v y := by
  unfold oLoad at e
  split at e
  · rename_i g off
    split at e
    · rename_i r hrow
      simp only [VR] at hx
      subst hx
      have ro := hr.glAt hrow
      split at e
      · rename_i hag
        split at e
        · rename_i hb
          cases e
          have hb' : off < r.n := by have := Nat.le_of_ble_eq_true hb; omega
          obtain ⟨y, hy, hv⟩ := ro off hb'
          exact ⟨y, by simp [Instr.loadAt, Instr.sureAddr, loadVar, run_isAggA k hag, hy], hv⟩
        · cases e
      · rename_i hag
        split at e
        · rename_i s hsz
          split at e
          · rename_i hb
            cases e
            have hb' := Nat.le_of_ble_eq_true hb
            obtain ⟨L, l1, l2, l3⟩ := RowC.reads ro s off hb'
            have hl := run_loadCells_list (P := c.P) w ⟨g, off, none⟩ L (fun j v hv => by rw [add_off]; exact l3 j v hv)
            rw [l2] at hl
            exact ⟨.agg L.toArray, by simp [Instr.loadAt, Instr.sureAddr, loadVar, run_isAggA k hag, run_size k hsz, hl], by simp only [VR]; exact ⟨L, l1, rfl⟩⟩
          · cases e
        · cases e
      · cases e
    · cases e
  · rename_i id off
    split at e
    · rename_i r hrow
      simp only [VR] at hx
      obtain ⟨B, N, hp, rfl⟩ := hx
      have ro := hr.rowAt hrow hp
      split at e
      · rename_i hag
        split at e
        · rename_i hb
          cases e
          have hb' : off < r.n := by have := Nat.le_of_ble_eq_true hb; omega
          obtain ⟨y, hy, hv⟩ := ro.2.2.2 off hb'
          exact ⟨y, by simp [Instr.loadAt, Instr.sureAddr, loadVar, run_isAggA k hag, hy], hv⟩
        · cases e
      · rename_i hag
        split at e
        · rename_i s hsz
          split at e
          · rename_i hb
            cases e
            have hb' := Nat.le_of_ble_eq_true hb
            obtain ⟨L, l1, l2, l3⟩ := RowOk.reads ro s off hb'
            have hl := run_loadCells_list (P := c.P) w ⟨B, off, none⟩ L (fun j v hv => by rw [add_off]; exact l3 j v hv)
            rw [l2] at hl
            exact ⟨.agg L.toArray, by simp [Instr.loadAt, Instr.sureAddr, loadVar, run_isAggA k hag, run_size k hsz, hl], by simp only [VR]; exact ⟨L, l1, rfl⟩⟩
          · cases e
        · cases e
      · cases e
    · cases e
  · cases e

omit k in
theorem nilCheck_ok {ρ : Map} {x v : AV} {y : Value} (e : oNilCheck x = some v) (hx : VR ρ x y) (o : Oper) (z : Operand) (a : Act) (ho : o.op = .nilCheck z) (hz : a.eval z = y) (w : World) :
    (execOp a.eval o).run c.P w = .ok (.value y) w ∧ VR ρ v y := by
  unfold oNilCheck at e
  split at e
  · simp only [VR] at hx; obtain ⟨B, N, hp, rfl⟩ := hx
    cases e; exact ⟨by simp [execOp, ho, hz], by simp only [VR]; exact ⟨B, N, hp, rfl⟩⟩
  · simp only [VR] at hx; subst hx
    cases e; exact ⟨by simp [execOp, ho, hz], by simp only [VR]⟩
  · rename_i f first cap
    simp only [VR] at hx
    obtain ⟨f', F, C, h1, h2, h3, rfl⟩ := hx
    split at e
    · simp only [FR] at h1; subst h1
      cases e; exact ⟨by simp [execOp, ho, hz], by simp only [VR, FR]; exact ⟨_, F, C, rfl, h2, h3, rfl⟩⟩
    · simp only [FR] at h1
      obtain ⟨B, N, hp, rfl⟩ := h1
      cases e; exact ⟨by simp [execOp, ho, hz], by simp only [VR, FR]; exact ⟨_, F, C, ⟨B, N, hp, rfl⟩, h2, h3, rfl⟩⟩
    · cases e
  · simp only [VR] at hx; obtain ⟨x', hp, rfl⟩ := hx
    cases e; exact ⟨by simp [execOp, ho, hz], by simp only [VR]; exact ⟨x', hp, rfl⟩⟩
  · cases e

/-- a part of an aggregate -/
theorem part_ok {ρ : Map} {l : List AV} {L : List Value} (h : VRs ρ l L) {t : TypeId} {off : Nat} {v : AV}
    (e : partA c l t off = some v) :
    ∃ y, (∀ w, (part t L.toArray off).run c.P w = .ok y w) ∧ VR ρ v y := by
  unfold partA at e
  split at e
  · rename_i hag
    rw [nth_eq] at e
    obtain ⟨y, h1, h2⟩ := h.at e
    exact ⟨y, fun w => by simp [part, run_isAggA k hag, h1], h2⟩
  · rename_i hag
    split at e
    · rename_i s hsz
      cases e
      refine ⟨.agg ((L.drop off).take s).toArray, fun w => ?_, by simp only [VR]; exact ⟨_, (h.drop off).take s, rfl⟩⟩
      simp [part, run_isAggA k hag, run_size k hsz, List.take_drop]
    · cases e
  · cases e

theorem field_ok {ρ : Map} {t : TypeId} {x v : AV} {y : Value} {i : Nat} (e : oField c t x i = some v) (hx : VR ρ x y) : ∃ z, (∀ w, (Instr.field t y i).run c.P w = .ok z w) ∧ VR ρ v z := by
  unfold oField at e
  split at e
  · rename_i l
    simp only [VR] at hx
    obtain ⟨L, hl, rfl⟩ := hx
    split at e
    · rename_i d hd
      split at e
      · rename_i fs
        split at e
        · rename_i f hf
          rw [nth_eq] at hf
          obtain ⟨z, h1, h2⟩ := part_ok k hl (t := f.type) (off := f.offset) (v := v) e
          refine ⟨z, fun w => ?_, h2⟩
          have hf' : fs[i]? = some f := by simpa using hf
          simp [Instr.field, run_under k hd, hf', asAgg, h1]
        · cases e
      · cases e
    · cases e
  · cases e

theorem fieldAddr_ok {ρ : Map} {t : TypeId} {x v : AV} {y : Value} {i : Nat} (e : oFieldAddr c t x i = some v) (hx : VR ρ x y) : ∃ z, (∀ w, (Instr.fieldAt t y i).run c.P w = .ok z w) ∧ VR ρ v z := by
  unfold oFieldAddr at e
  split at e
  · rename_i id off
    simp only [VR] at hx
    obtain ⟨B, N, hp, rfl⟩ := hx
    split at e
    · rename_i d hd
      split at e
      · rename_i fs
        split at e
        · rename_i f hf
          rw [nth_eq] at hf
          have hf' : fs[i]? = some f := by simpa using hf
          split at e
          · rename_i s hsz
            split at e
            · cases e
            · rename_i hb
              cases e
              have hs : s ≠ 0 := beqN hb
              refine ⟨.pointer (some ⟨B, off + f.offset, none⟩), fun w => ?_, by simp only [VR]; exact ⟨B, N, hp, rfl⟩⟩
              simp [Instr.fieldAt, run_under k hd, hf', Instr.sureAddr, fieldPlace, run_size k hsz, hs, add_off]
          · cases e
        · cases e
      · cases e
    · cases e
  · rename_i id off
    simp only [VR] at hx
    subst hx
    split at e
    · rename_i d hd
      split at e
      · rename_i fs
        split at e
        · rename_i f hf
          rw [nth_eq] at hf
          have hf' : fs[i]? = some f := by simpa using hf
          split at e
          · rename_i s hsz
            split at e
            · cases e
            · rename_i hb
              cases e
              have hs : s ≠ 0 := beqN hb
              refine ⟨.pointer (some ⟨id, off + f.offset, none⟩), fun w => ?_, by simp only [VR]⟩
              simp [Instr.fieldAt, run_under k hd, hf', Instr.sureAddr, fieldPlace, run_size k hsz, hs, add_off]
          · cases e
        · cases e
      · cases e
    · cases e
  · cases e

omit k in
theorem inRange_ok {i : Int} {n m : Nat} (e : inRange i n = some m) : i = (m : Int) ∧ m < n := by
  unfold inRange at e
  split at e
  · split at e
    · rename_i hb; cases e; exact ⟨rfl, by have := Nat.le_of_ble_eq_true hb; omega⟩
    · cases e
  · cases e
omit k in
theorem upTo_ok {i : Int} {n m : Nat} (e : upTo i n = some m) : i = (m : Int) ∧ m ≤ n := by
  unfold upTo at e
  split at e
  · split at e
    · rename_i hb; cases e; exact ⟨rfl, Nat.le_of_ble_eq_true hb⟩
    · cases e
  · cases e

theorem indexAddr_ok {ρ : Map} {t : TypeId} {x i v : AV} {y j : Value} (e : oIndexAddr c t x i = some v) (hx : VR ρ x y) (hi : VR ρ i j) : ∃ z, (∀ w, (Instr.indexAt t y j).run c.P w = .ok z w) ∧ VR ρ v z := by
  unfold oIndexAddr at e
  split at e
  · rename_i ik i
    simp only [VR] at hi; subst hi
    split at e
    · rename_i d hd
      split at e
      · rename_i el
        split at e
        · rename_i id off len cap z
          simp only [VR] at hx
          obtain ⟨B, N, C, hp, rfl, hle, _⟩ := hx
          split at e
          · rename_i m hm
            obtain ⟨rfl, hlt⟩ := inRange_ok hm
            split at e
            · rename_i s hsz
              split at e
              · rename_i hb
                cases e
                have hs : s = z := beqT hb
                subst hs
                refine ⟨.pointer (some ⟨B, off + m * s, none⟩), fun w => ?_, by simp only [VR]; exact ⟨B, N, hp, rfl⟩⟩
                have h1 : ¬ len ≤ m := by omega
                simp [Instr.indexAt, asIntOf, run_under k hd, run_size k hsz, add_off, h1]
              · cases e
            · cases e
          · cases e
        · cases e
      · rename_i n el
        split at e
        · rename_i id off
          simp only [VR] at hx
          obtain ⟨B, N, hp, rfl⟩ := hx
          split at e
          · rename_i m hm
            obtain ⟨rfl, hlt⟩ := inRange_ok hm
            split at e
            · rename_i s hsz
              cases e
              refine ⟨.pointer (some ⟨B, off + m * s, none⟩), fun w => ?_, by simp only [VR]; exact ⟨B, N, hp, rfl⟩⟩
              have h1 : ¬ n ≤ m := by omega
              simp [Instr.indexAt, asIntOf, run_under k hd, Instr.sureAddr, run_size k hsz, add_off, h1]
            · cases e
          · cases e
        · rename_i id off
          simp only [VR] at hx
          subst hx
          split at e
          · rename_i m hm
            obtain ⟨rfl, hlt⟩ := inRange_ok hm
            split at e
            · rename_i s hsz
              cases e
              refine ⟨.pointer (some ⟨id, off + m * s, none⟩), fun w => ?_, by simp only [VR]⟩
              have h1 : ¬ n ≤ m := by omega
              simp [Instr.indexAt, asIntOf, run_under k hd, Instr.sureAddr, run_size k hsz, add_off, h1]
            · cases e
          · cases e
        · cases e
      · cases e
    · cases e
  · cases e
end
end Go.Ax
