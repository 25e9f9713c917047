/-
  AxL: parts laid over zeros; slices made; maps and functions made.
-/
import Derived.Test.YtaopfnhkfedemaaGreatDoorAxK
set_option linter.unusedVariables false
set_option linter.unusedSimpArgs false
namespace Go.Ax

/-! ## parts -/
def PR (ρ : Map) (a : List (Nat × AV)) (A : List (Nat × Value)) : Prop :=
  match a, A with
  | [], [] => True
  | x :: a, y :: A => x.1 = y.1 ∧ VR ρ x.2 y.2 ∧ PR ρ a A
  | _, _ => False

theorem parts_ok {ρ : Map} {e : T AV} {a : Act} {sz : Nat} (h : ER ρ e a.tmps sz) (ps : Array (Nat × Operand)) : PR ρ (parts e ps) (ps.map fun (i, x) => (i, a.eval x)).toList := by
  unfold parts
  rw [Array.toList_map]
  generalize ps.toList = l
  induction l with
  | nil => trivial
  | cons p l ih => exact ⟨rfl, ev_ok h p.2, ih⟩

theorem fill_ok {ρ : Map} {place : Nat → Option (Nat × Nat)} : ∀ (ps : List (Nat × AV)) (PS : List (Nat × Value)) (cs : List AV) (CS : Array Value) (r : List AV),
    PR ρ ps PS → VRs ρ cs CS.toList → fillA place ps cs = some r → ∃ R, Instr.fill place CS PS = some R ∧ VRs ρ r R.toList
  | [], [], cs, CS, r, _, hc, e => by cases e; exact ⟨CS, rfl, hc⟩
  | [], _ :: _, cs, CS, r, hp, hc, e => hp.elim
  | _ :: _, [], cs, CS, r, hp, hc, e => hp.elim
  | (i, a) :: ps, (j, v) :: PS, cs, CS, r, hp, hc, e => by
    obtain ⟨h1, h2, h3⟩ := hp
    simp only at h1 h2
    subst h1
    have e' : fill1 (place i) (fillA place ps) a cs = some r := e
    unfold fill1 at e'
    cases hpl : place i with
    | none => rw [hpl] at e'; cases e'
    | some q =>
      obtain ⟨off, size⟩ := q
      rw [hpl] at e'
      simp only [] at e'
      have hb : a ≠ .bad := fun hb => by subst hb; cases e'
      have e2 : (match Nat.beq size a.cells.length with
          | true => (match Nat.ble (off + size) cs.length with | true => fillA place ps (cs.take off ++ a.cells ++ cs.drop (off + size)) | false => none)
          | false => none) = some r := by
        cases a <;> first | exact e' | exact absurd rfl hb
      split at e2
      · rename_i hs
        have hs := beqT hs
        split at e2
        · rename_i hle
          have hle := bleT hle
          have hv := cells_ok h2 hb
          have hl1 := hv.length
          have hl2 := hc.length
          simp only [Array.length_toList] at hl1 hl2
          obtain ⟨f1, f2⟩ := Go.Great.foldl_set off v.cells.toList 0 CS
          have hnew : VRs ρ (cs.take off ++ a.cells ++ cs.drop (off + size)) ((v.cells.toList.zipIdx 0).foldl (fun cs (x : Value × Nat) => cs.setIfInBounds (off + x.2) x.1) CS).toList := by
            have key : ((v.cells.toList.zipIdx 0).foldl (fun cs (x : Value × Nat) => cs.setIfInBounds (off + x.2) x.1) CS).toList = CS.toList.take off ++ v.cells.toList ++ CS.toList.drop (off + size) := by
              apply List.ext_getElem?
              intro n
              have := f2 n
              rw [Array.getElem?_toList, this]
              simp only [Nat.add_zero, Array.length_toList]
              by_cases hn : n < off
              · rw [if_neg (by omega)]
                rw [List.append_assoc, List.getElem?_append_left (by simp; omega), List.getElem?_take, if_pos hn, Array.getElem?_toList]
              · by_cases hn2 : n < off + size
                · rw [if_pos (by omega), List.getElem?_append_left (by simp; omega), List.getElem?_append_right (by simp; omega)]
                  congr 1
                  simp; omega
                · rw [if_neg (by omega), List.getElem?_append_right (by simp; omega), List.getElem?_drop, Array.getElem?_toList]
                  congr 1
                  simp; omega
            rw [key]
            exact ((hc.take off).append hv).append (hc.drop (off + size))
          obtain ⟨R, r1, r2⟩ := fill_ok ps PS _ _ r h3 hnew e2
          refine ⟨R, ?_, r2⟩
          unfold Instr.fill
          rw [hpl]
          simp only []
          rw [if_neg (by simp; omega)]
          rw [← r1]
          rw [← Array.foldl_toList, Array.toList_zipIdx]
        · cases e2
      · cases e2

theorem reps_zero (z : List AV) : reps 0 z = [] := rfl
theorem reps_succ (n : Nat) (z : List AV) : reps (n + 1) z = z ++ reps n z := rfl
theorem reps_get (z : List AV) : ∀ (n i : Nat), i < n * z.length → (reps n z)[i]? = z[i % z.length]?
  | 0, i, h => by omega
  | n + 1, i, h => by
    rw [reps_succ]
    have e1 : (n + 1) * z.length = n * z.length + z.length := by rw [Nat.add_mul, Nat.one_mul]
    by_cases hi : i < z.length
    · rw [List.getElem?_append_left hi, Nat.mod_eq_of_lt hi]
    · rw [List.getElem?_append_right (by omega), reps_get z n (i - z.length) (by omega)]
      congr 1
      rw [← Nat.mod_eq_sub_mod (by omega)]
theorem reps_length (z : List AV) : ∀ n, (reps n z).length = n * z.length
  | 0 => by simp [reps_zero]
  | n + 1 => by rw [reps_succ, List.length_append, reps_length z n, Nat.add_mul, Nat.one_mul, Nat.add_comm]

theorem made_get {ρ : Map} {z : List AV} {Z : Array Value} (h : VRs ρ z Z.toList) (n : Nat) {j : Nat} (hj : j < n) (hz : z.length ≠ 0) :
    ∃ v, (madeCells Z n)[j]? = some v ∧ VR ρ ((z[j % z.length]?).getD .bad) v := by
  have hl := h.length
  simp only [Array.length_toList] at hl
  have hlt : j % z.length < z.length := Nat.mod_lt _ (by omega)
  rw [List.getElem?_eq_getElem hlt]
  obtain ⟨v, a, b⟩ := h.at (List.getElem?_eq_getElem hlt)
  refine ⟨v, ?_, b⟩
  rw [Array.getElem?_toList] at a
  unfold madeCells
  rw [Array.getElem?_map, Array.getElem?_range, if_pos hj]
  rw [hl] at a
  have hs : (Z[j % Z.size]!) = v := by rw [getElem!_def, a]
  simp [hs]
theorem made_ok {ρ : Map} {z : List AV} {Z : Array Value} (h : VRs ρ z Z.toList) (n : Nat) (hz : z.length ≠ 0) : VRs ρ (reps n z) (madeCells Z (n * z.length)).toList := by
  refine VRs.iff.2 ⟨by rw [reps_length]; simp [size_madeCells], fun i a v ha hv => ?_⟩
  have hi : i < n * z.length := by
    have := (List.getElem?_eq_some_iff.1 ha).1
    rwa [reps_length] at this
  obtain ⟨u, u1, u2⟩ := made_get h (n * z.length) hi hz
  rw [Array.getElem?_toList, u1] at hv
  cases hv
  rw [reps_get z n i hi] at ha
  rw [ha] at u2
  exact u2

section
variable {c : Ctx} (k : CtxOk c)
include k

theorem places_ok : ∀ (fs : List Field) (ps : List (Nat × Nat)), placesA c fs = some ps → fs.mapM (fun f => (c.P.info? f.type).map fun i => (f.offset, i.size)) = some ps
  | [], ps, e => by cases e; rfl
  | f :: fs, ps, e => by
    have e' : (match c.size f.type with
      | some s => (match placesA c fs with | some r => some ((f.offset, s) :: r) | none => none)
      | none => none) = some ps := e
    split at e'
    · rename_i s hs
      split at e'
      · rename_i r hr
        cases e'
        unfold Ctx.size at hs
        cases hi : c.info f.type with
        | none => rw [hi] at hs; cases hs
        | some i =>
          rw [hi] at hs; cases hs
          simp [List.mapM_cons, k.tys _ _ hi, places_ok fs r hr]
      · cases e'
    · cases e'

theorem zcells_ok {t : TypeId} {z : List AV} (h : c.zcells t = some z) (ρ : Map) : ∃ i Z, c.P.info? t = some i ∧ i.zero = some Z ∧ VRs ρ z Z.cells.toList ∧ c.info t = some i := by
  unfold Ctx.zcells at h
  cases hz0 : c.zero t with
  | none => rw [hz0] at h; cases h
  | some z0 =>
    rw [hz0] at h
    have hb : z0 ≠ .bad := fun hb => by subst hb; cases h
    have hz1 : z = z0.cells := by cases z0 <;> first | (cases h; rfl) | cases h
    subst hz1
    unfold Ctx.zero at hz0
    cases hi : c.info t with
    | none => rw [hi] at hz0; cases hz0
    | some i =>
      rw [hi] at hz0
      simp only [] at hz0
      cases hz : i.zero with
      | none => rw [hz] at hz0; cases hz0
      | some v => rw [hz] at hz0; cases hz0; exact ⟨i, v, k.tys _ _ hi, hz, cells_ok (ofV_ok ρ v) hb, rfl⟩
theorem size_info {t : TypeId} {s : Nat} (h : c.size t = some s) : ∃ i, c.info t = some i ∧ c.P.info? t = some i ∧ i.size = s := by
  unfold Ctx.size at h
  cases hi : c.info t with
  | none => rw [hi] at h; cases h
  | some i => rw [hi] at h; cases h; exact ⟨i, rfl, k.tys _ _ hi, rfl⟩

theorem build_ok {ρ : Map} {t : TypeId} {ps : List (Nat × AV)} {PS : Array (Nat × Value)} {v : AV} (e : oBuild c t ps = some v) (hp : PR ρ ps PS.toList) :
    ∃ z, (∀ w, (Instr.build t PS).run c.P w = .ok z w) ∧ VR ρ v z := by
  unfold oBuild at e
  split at e
  · rename_i z0 hz0
    split at e
    · rename_i z
      have hzc : c.zcells t = some z := by unfold Ctx.zcells; rw [hz0]; rfl
      obtain ⟨it, Z, i1, i2, i3, _⟩ := zcells_ok k hzc ρ
      split at e
      · rename_i d hd
        have hu := under_eq k hd
        split at e
        · rename_i fs
          split at e
          · rename_i pl hpl
            split at e
            · rename_i cs hcs
              cases e
              obtain ⟨R, r1, r2⟩ := fill_ok ps PS.toList z Z.cells cs hp i3 hcs
              have hm := places_ok k fs.toList pl hpl
              refine ⟨.agg R, fun w => run_build w t PS R ?_, by simp only [VR]; exact ⟨_, r2, by simp⟩⟩
              unfold Program.built
              simp only [i1, hu, i2, hm]
              rw [← r1]
              congr 1
              funext x; rw [nth_eq]; simp
            · cases e
          · cases e
        · rename_i m el
          split at e
          · rename_i s hs
            split at e
            · rename_i cs hcs
              cases e
              obtain ⟨R, r1, r2⟩ := fill_ok ps PS.toList z Z.cells cs hp i3 hcs
              obtain ⟨ie, _, j1, j2⟩ := size_info k hs
              refine ⟨.agg R, fun w => run_build w t PS R ?_, by simp only [VR]; exact ⟨_, r2, by simp⟩⟩
              unfold Program.built
              simp only [i1, hu, i2, j1, j2]
              exact r1
            · cases e
          · cases e
        · cases e
      · cases e
    · cases e
  · cases e

theorem buildSlice_ok {ρ : Map} {h h' : Heap} {w : World} (hr : HR ρ h w) (wf : WF h) (fr : ρ h.nxt = none) {t : TypeId} {len : Nat} {ps : List (Nat × AV)} {PS : Array (Nat × Value)} {v : AV}
    (e : oBuildSlice c h t len ps = some (v, h')) (hp : PR ρ ps PS.toList) :
    ∃ z w' ρ', (Instr.buildSlice t len PS).run c.P w = .ok z w' ∧ Good ρ h w ρ' h' w' ∧ VR ρ' v z := by
  unfold oBuildSlice at e
  split at e
  · rename_i d hd
    have hu := under_eq k hd
    split at e
    · rename_i el
      split at e
      · rename_i s hs
        obtain ⟨ie, _, j1, j2⟩ := size_info k hs
        split at e
        · rename_i hl0
          have hl0 := beqT hl0
          subst hl0
          split at e
          · cases e
            have hPS : PS.toList = [] := by
              cases hq : PS.toList with
              | nil => rfl
              | cons x l => rw [hq] at hp; simp [PR] at hp
            subst j2
            have hrun : (Instr.buildSlice t 0 PS).run c.P w = .ok (.slice (some ⟨w.heap.size, 0, none⟩) 0 0) (w.alloc (.cells #[] el)) := by
              have h0 : ((Array.range 0).map fun _ => (default : Value)) = #[] := by apply Array.ext'; simp
              simp [Instr.buildSlice, run_underlying hu, sizeOf, typeInfo, j1, hPS, Instr.fill, h0, Go.newRow]
            refine ⟨_, _, _, hrun, newRow_ok hr wf fr el 0 [] #[] (fun j hj => by omega) rfl, ?_⟩
            simp only [VR]
            exact ⟨_, _, 0, upd_same _ _ _, rfl, Nat.le_refl _, (fun _ q => by cases q; rfl), (fun q => by cases q)⟩
          · cases e
        split at e
        · rename_i z hz
          obtain ⟨it, Z, i1, i2, i3, _⟩ := zcells_ok k hz ρ
          rw [j1] at i1; cases i1
          split at e
          · cases e
          · rename_i hsl
            have hsl := beqT hsl
            split at e
            · cases e
            · rename_i h0
              have h0 := beqN h0
              split at e
              · cases e
              · rename_i hle
                have hle := bleT hle
                split at e
                · rename_i cs hcs
                  cases e
                  subst j2
                  have hz0 : z.length ≠ 0 := fun q => h0 (by rw [hsl, q, Nat.mul_zero])
                  have hmade := made_ok i3 len hz0
                  rw [← hsl] at hmade
                  obtain ⟨R, r1, r2⟩ := fill_ok ps PS.toList _ _ cs hp hmade hcs
                  have hrun := run_buildSlice (P := c.P) w t el len PS R ie Z hu j1 i2 (by omega) h0 r1
                  have hlen := r2.length
                  refine ⟨_, _, _, hrun, newRow_ok hr wf fr el cs.length cs R (by simpa using whole r2 el) (by simpa using hlen), ?_⟩
                  simp only [VR]
                  exact ⟨_, _, len, upd_same _ _ _, rfl, Nat.le_refl _, (fun _ q => by cases q; rfl), (fun q => by cases q)⟩
                · cases e
        · cases e
      · cases e
    · cases e
  · cases e

theorem makeSlice_ok {ρ : Map} {h h' : Heap} {w : World} (hr : HR ρ h w) (wf : WF h) (fr : ρ h.nxt = none) {t : TypeId} {l kk v : AV} {L K : Value}
    (e : oMakeSlice c h t l kk = some (v, h')) (hl : VR ρ l L) (hk : VR ρ kk K) :
    ∃ z w' ρ', (Instr.makeSlice t L K).run c.P w = .ok z w' ∧ Good ρ h w ρ' h' w' ∧ VR ρ' v z := by
  unfold oMakeSlice at e
  split at e
  · rename_i ik1 l
    split at e
    · rename_i ik2 kv
      simp only [VR] at hl hk; subst hl; subst hk
      split at e
      · rename_i d hd
        have hu := under_eq k hd
        split at e
        · rename_i el
          split at e
          · rename_i kn hkn
            obtain ⟨rfl, hkle⟩ := upTo_ok hkn
            split at e
            · rename_i ln hln
              obtain ⟨rfl, hlle⟩ := upTo_ok hln
              split at e
              · rename_i i hi
                split at e
                · rename_i z hz
                  obtain ⟨it, Z, i1, i2, i3, i4⟩ := zcells_ok k hz ρ
                  rw [hi] at i4; cases i4
                  split at e
                  · cases e
                  · rename_i hsl
                    have hsl := beqT hsl
                    split at e
                    · cases e
                    · rename_i h0
                      have h0 := beqN h0
                      split at e
                      · cases e
                      · rename_i hby
                        have hby := bleT hby
                        cases e
                        have hb1 : (i.bytes * kn : Nat) ≤ 1000 * 1000000 := Nat.mul_le_mul hby hkle
                        have hrun := run_make (P := c.P) w t el i Z hu i1 i2 ik1 ik2 ln kn (by omega) (by omega) (by
                          have : ((i.bytes * kn : Nat) : Int) ≤ 1000000000 := by omega
                          rw [Int.natCast_mul] at this; omega) (by omega)
                        simp only [Int.toNat_natCast] at hrun
                        have hz0 : z.length ≠ 0 := fun q => h0 (by omega)
                        refine ⟨_, _, _, hrun, newRow_ok hr wf fr el (kn * i.size) z _ (fun j hj => ?_) (by simp [size_madeCells]), ?_⟩
                        · rw [Row.get_new]; exact made_get i3 _ hj hz0
                        · simp only [VR]
                          refine ⟨_, _, kn, upd_same _ _ _, rfl, hlle, (fun _ q => by cases q; rfl), (fun q => by cases q)⟩
                · cases e
              · cases e
            · cases e
          · cases e
        · cases e
      · cases e
    · cases e
  · cases e

omit k in
/-- A NEW OBJECT. -/
theorem newObj_ok {P : Program} {ρ : Map} {h : Heap} {w : World} (hr : HR ρ h w) (wf : WF h) (fr : ρ h.nxt = none) : Good ρ h w (upd ρ h.nxt (w.heap.size, 0)) (h.new (.map [] 0)) (w.alloc (.map #[] 0)) :=
  Good.newBlock hr wf fr _ _ 0 (fun r e => by cases e) ⟨#[], by rw [alloc_at], rfl, fun i p e a => by simp at a⟩

theorem makeMap_ok {ρ : Map} {h h' : Heap} {w : World} (hr : HR ρ h w) (wf : WF h) (fr : ρ h.nxt = none) {t : TypeId} {r : Option AV} {v : AV} {R : Option Value} (e : oMakeMap c h t r = some (v, h')) (ho : VRo ρ r R) :
    ∃ z w' ρ', (Instr.makeMap t R).run c.P w = .ok z w' ∧ Good ρ h w ρ' h' w' ∧ VR ρ' v z := by
  have fin : ∀ (q : v = .mp h.nxt ∧ h' = h.new (.map [] 0)), (Instr.makeMap t R).run c.P w = .ok (.map (some w.heap.size)) (w.alloc (.map #[] 0)) → ∃ z w' ρ', (Instr.makeMap t R).run c.P w = .ok z w' ∧ Good ρ h w ρ' h' w' ∧ VR ρ' v z := fun q run => by
    obtain ⟨rfl, rfl⟩ := q
    exact ⟨_, _, _, run, newObj_ok (P := c.P) hr wf fr, by simp only [VR]; exact ⟨_, _, upd_same _ _ _, rfl⟩⟩
  unfold oMakeMap at e
  split at e
  · simp only [VRo] at ho; subst ho
    cases e
    exact fin ⟨rfl, rfl⟩ (by simp [Instr.makeMap])
  · simp only [VRo] at ho
    obtain ⟨y, rfl, hy⟩ := ho
    split at e
    · simp only [VR] at hy; subst hy
      split at e
      · rename_i d hd
        have hu := under_eq k hd
        split at e
        · cases e
          exact fin ⟨rfl, rfl⟩ (by simp [Instr.makeMap, run_underlying hu, asInt, asIntOf])
        · cases e
      · cases e
    · cases e
end
end Go.Ax
