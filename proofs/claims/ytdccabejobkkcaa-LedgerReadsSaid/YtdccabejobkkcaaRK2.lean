/- Parts of the proof in YtdccabejobkkcaaRFin: PxL, PxM, PxN, PxO, PxP, PxQ, PxR, PxS, PxT, PxU, PxUa, PxUb, PxV, PxW, PxX, PxY, PxZ, PxZa, PxZb. -/
import Derived.Test.YtdccabejobkkcaaRK1
import Derived.Laws.IdiomStrings
import Derived.MapKept
import Derived.ArgAppend
import Derived.Lib.UnsafeStr
import Derived.ChangeKeysEq
import Derived.RangeFuncRecord
import Derived.OrdersIn
import Derived.Scope
set_option linter.unusedVariables false
set_option linter.unusedSimpArgs false
section
namespace Go.Px
/-! ## parts -/
def PR (ρ : Map) (a : List (Nat × AV)) (A : List (Nat × Value)) : Prop :=
 match a, A with
 | [], [] => True
 | x :: a, y :: A => x.1 = y.1 ∧ VR ρ x.2 y.2 ∧ PR ρ a A
 | _, _ => False
theorem parts_ok {ρ : Map} {e : T AV} {a : Act} {sz : Nat} (h : ER ρ e a.tmps sz) (ps : Array (Nat × Operand)) : PR ρ (parts e ps) (ps.map fun (i, x) => (i, a.eval x)).toList := by
 unfold parts
 rw [Array.toList_map]
 generalize ps.toList = l
 induction l with
 | nil => trivial
 | cons p l ih => exact ⟨rfl, ev_ok h p.2, ih⟩
theorem fill_ok {ρ : Map} {place : Nat → Option (Nat × Nat)} : ∀ (ps : List (Nat × AV)) (PS : List (Nat × Value)) (cs : List AV) (CS : Array Value) (r : List AV),
  PR ρ ps PS → VRs ρ cs CS.toList → fillA place ps cs = some r → ∃ R, Instr.fill place CS PS = some R ∧ VRs ρ r R.toList
 | [], [], cs, CS, r, _, hc, e => by cases e; exact ⟨CS, rfl, hc⟩
 | [], _ :: _, cs, CS, r, hp, hc, e => hp.elim
 | _ :: _, [], cs, CS, r, hp, hc, e => hp.elim
 | (i, a) :: ps, (j, v) :: PS, cs, CS, r, hp, hc, e => by
  obtain ⟨h1, h2, h3⟩ := hp
  simp only at h1 h2
  subst h1
  have e' : fill1 (place i) (fillA place ps) a cs = some r := e
  unfold fill1 at e'
  cases hpl : place i with
  | none => rw [hpl] at e'; cases e'
  | some q =>
   obtain ⟨off, size⟩ := q
   rw [hpl] at e'
   simp only [] at e'
   have hb : a ≠ .bad := fun hb => by subst hb; cases e'
   have e2 : (match Nat.beq size a.cells.length with
     | true => (match Nat.ble (off + size) cs.length with | true => fillA place ps (cs.take off ++ a.cells ++ cs.drop (off + size)) | false => none)
     | false => none) = some r := by
    cases a <;> first | exact e' | exact absurd rfl hb
   split at e2
   ·rename_i hs
    have hs := beqT hs
    split at e2
    ·rename_i hle
     have hle := bleT hle
     have hv := cells_ok h2 hb
     have hl1 := hv.length
     have hl2 := hc.length
     simp only [Array.length_toList] at hl1 hl2
     obtain ⟨f1, f2⟩ := Go.Great.foldl_set off v.cells.toList 0 CS
     have hnew : VRs ρ (cs.take off ++ a.cells ++ cs.drop (off + size)) ((v.cells.toList.zipIdx 0).foldl (fun cs (x : Value × Nat) => cs.setIfInBounds (off + x.2) x.1) CS).toList := by
      have key : ((v.cells.toList.zipIdx 0).foldl (fun cs (x : Value × Nat) => cs.setIfInBounds (off + x.2) x.1) CS).toList = CS.toList.take off ++ v.cells.toList ++ CS.toList.drop (off + size) := by
       apply List.ext_getElem?
       intro n
       have := f2 n
       rw [Array.getElem?_toList, this]
       simp only [Nat.add_zero, Array.length_toList]
       by_cases hn : n < off
       ·rw [if_neg (by omega)]
        rw [List.append_assoc, List.getElem?_append_left (by simp; omega), List.getElem?_take, if_pos hn, Array.getElem?_toList]
       ·by_cases hn2 : n < off + size
        ·rw [if_pos (by omega), List.getElem?_append_left (by simp; omega), List.getElem?_append_right (by simp; omega)]
         congr 1
         simp; omega
        ·rw [if_neg (by omega), List.getElem?_append_right (by simp; omega), List.getElem?_drop, Array.getElem?_toList]
         congr 1
         simp; omega
      rw [key]
      exact ((hc.take off).append hv).append (hc.drop (off + size))
     obtain ⟨R, r1, r2⟩ := fill_ok ps PS _ _ r h3 hnew e2
     refine ⟨R, ?_, r2⟩
     unfold Instr.fill
     rw [hpl]
     simp only []
     rw [if_neg (by simp; omega)]
     rw [← r1]
     rw [← Array.foldl_toList, Array.toList_zipIdx]
    ·cases e2
   ·cases e2
theorem reps_zero (z : List AV) : reps 0 z = [] := rfl
theorem reps_succ (n : Nat) (z : List AV) : reps (n + 1) z = z ++ reps n z := rfl
theorem reps_get (z : List AV) : ∀ (n i : Nat), i < n * z.length → (reps n z)[i]? = z[i % z.length]?
 | 0, i, h => by omega
 | n + 1, i, h => by
  rw [reps_succ]
  have e1 : (n + 1) * z.length = n * z.length + z.length := by rw [Nat.add_mul, Nat.one_mul]
  by_cases hi : i < z.length
  ·rw [List.getElem?_append_left hi, Nat.mod_eq_of_lt hi]
  ·rw [List.getElem?_append_right (by omega), reps_get z n (i - z.length) (by omega)]
   congr 1
   rw [← Nat.mod_eq_sub_mod (by omega)]
theorem reps_length (z : List AV) : ∀ n, (reps n z).length = n * z.length
 | 0 => by simp [reps_zero]
 | n + 1 => by rw [reps_succ, List.length_append, reps_length z n, Nat.add_mul, Nat.one_mul, Nat.add_comm]
theorem made_get {ρ : Map} {z : List AV} {Z : Array Value} (h : VRs ρ z Z.toList) (n : Nat) {j : Nat} (hj : j < n) (hz : z.length ≠ 0) :
  ∃ v, (madeCells Z n)[j]? = some v ∧ VR ρ ((z[j % z.length]?).getD .bad) v := by
 have hl := h.length
 simp only [Array.length_toList] at hl
 have hlt : j % z.length < z.length := Nat.mod_lt _ (by omega)
 rw [List.getElem?_eq_getElem hlt]
 obtain ⟨v, a, b⟩ := h.at (List.getElem?_eq_getElem hlt)
 refine ⟨v, ?_, b⟩
 rw [Array.getElem?_toList] at a
 unfold madeCells
 rw [Array.getElem?_map, Array.getElem?_range, if_pos hj]
 rw [hl] at a
 have hs : (Z[j % Z.size]!) = v := by rw [getElem!_def, a]
 simp [hs]
theorem made_ok {ρ : Map} {z : List AV} {Z : Array Value} (h : VRs ρ z Z.toList) (n : Nat) (hz : z.length ≠ 0) : VRs ρ (reps n z) (madeCells Z (n * z.length)).toList := by
 refine VRs.iff.2 ⟨by rw [reps_length]; simp [size_madeCells], fun i a v ha hv => ?_⟩
 have hi : i < n * z.length := by
  have := (List.getElem?_eq_some_iff.1 ha).1
  rwa [reps_length] at this
 obtain ⟨u, u1, u2⟩ := made_get h (n * z.length) hi hz
 rw [Array.getElem?_toList, u1] at hv
 cases hv
 rw [reps_get z n i hi] at ha
 rw [ha] at u2
 exact u2
section
variable {c : Ctx} (k : CtxOk c)
include k
theorem places_ok : ∀ (fs : List Field) (ps : List (Nat × Nat)), placesA c fs = some ps → fs.mapM (fun f => (c.P.info? f.type).map fun i => (f.offset, i.size)) = some ps
 | [], ps, e => by cases e; rfl
 | f :: fs, ps, e => by
  have e' : (match c.size f.type with
   | some s => (match placesA c fs with | some r => some ((f.offset, s) :: r) | none => none)
   | none => none) = some ps := e
  split at e'
  ·rename_i s hs
   split at e'
   ·rename_i r hr
    cases e'
    unfold Ctx.size at hs
    cases hi : c.info f.type with
    | none => rw [hi] at hs; cases hs
    | some i =>
     rw [hi] at hs; cases hs
     simp [List.mapM_cons, k.tys _ _ hi, places_ok fs r hr]
   ·cases e'
  ·cases e'
theorem zcells_ok {t : TypeId} {z : List AV} (h : c.zcells t = some z) (ρ : Map) : ∃ i Z, c.P.info? t = some i ∧ i.zero = some Z ∧ VRs ρ z Z.cells.toList ∧ c.info t = some i := by
 unfold Ctx.zcells at h
 cases hz0 : c.zero t with
 | none => rw [hz0] at h; cases h
 | some z0 =>
  rw [hz0] at h
  have hb : z0 ≠ .bad := fun hb => by subst hb; cases h
  have hz1 : z = z0.cells := by cases z0 <;> first | (cases h; rfl) | cases h
  subst hz1
  unfold Ctx.zero at hz0
  cases hi : c.info t with
  | none => rw [hi] at hz0; cases hz0
  | some i =>
   rw [hi] at hz0
   simp only [] at hz0
   cases hz : i.zero with
   | none => rw [hz] at hz0; cases hz0
   | some v => rw [hz] at hz0; cases hz0; exact ⟨i, v, k.tys _ _ hi, hz, cells_ok (ofV_ok ρ v) hb, rfl⟩
theorem size_info {t : TypeId} {s : Nat} (h : c.size t = some s) : ∃ i, c.info t = some i ∧ c.P.info? t = some i ∧ i.size = s := by
 unfold Ctx.size at h
 cases hi : c.info t with
 | none => rw [hi] at h; cases h
 | some i => rw [hi] at h; cases h; exact ⟨i, rfl, k.tys _ _ hi, rfl⟩
theorem build_ok {ρ : Map} {t : TypeId} {ps : List (Nat × AV)} {PS : Array (Nat × Value)} {v : AV} (e : oBuild c t ps = some v) (hp : PR ρ ps PS.toList) :
  ∃ z, (∀ w, (Instr.build t PS).run c.P w = .ok z w) ∧ VR ρ v z := by
 unfold oBuild at e
 split at e
 ·rename_i z0 hz0
  split at e
  ·rename_i z
   have hzc : c.zcells t = some z := by unfold Ctx.zcells; rw [hz0]; rfl
   obtain ⟨it, Z, i1, i2, i3, _⟩ := zcells_ok k hzc ρ
   split at e
   ·rename_i d hd
    have hu := under_eq k hd
    split at e
    ·rename_i fs
     split at e
     ·rename_i pl hpl
      split at e
      ·rename_i cs hcs
       cases e
       obtain ⟨R, r1, r2⟩ := fill_ok ps PS.toList z Z.cells cs hp i3 hcs
       have hm := places_ok k fs.toList pl hpl
       refine ⟨.agg R, fun w => run_build w t PS R ?_, by simp only [VR]; exact ⟨_, r2, by simp⟩⟩
       unfold Program.built
       simp only [i1, hu, i2, hm]
       rw [← r1]
       congr 1
       funext x; rw [nth_eq]; simp
      ·cases e
     ·cases e
    ·rename_i m el
     split at e
     ·rename_i s hs
      split at e
      ·rename_i cs hcs
       cases e
       obtain ⟨R, r1, r2⟩ := fill_ok ps PS.toList z Z.cells cs hp i3 hcs
       obtain ⟨ie, _, j1, j2⟩ := size_info k hs
       refine ⟨.agg R, fun w => run_build w t PS R ?_, by simp only [VR]; exact ⟨_, r2, by simp⟩⟩
       unfold Program.built
       simp only [i1, hu, i2, j1, j2]
       exact r1
      ·cases e
     ·cases e
    ·cases e
   ·cases e
  ·cases e
 ·cases e
theorem buildSlice_ok {ρ : Map} {h h' : Heap} {w : World} (hr : HR ρ h w) (wf : WF h) (fr : ρ h.nxt = none) {t : TypeId} {len : Nat} {ps : List (Nat × AV)} {PS : Array (Nat × Value)} {v : AV}
  (e : oBuildSlice c h t len ps = some (v, h')) (hp : PR ρ ps PS.toList) :
  ∃ z w' ρ', (Instr.buildSlice t len PS).run c.P w = .ok z w' ∧ Good ρ h w ρ' h' w' ∧ VR ρ' v z := by
 unfold oBuildSlice at e
 split at e
 ·rename_i d hd
  have hu := under_eq k hd
  split at e
  ·rename_i el
   split at e
   ·rename_i s hs
    obtain ⟨ie, _, j1, j2⟩ := size_info k hs
    split at e
    ·rename_i hl0
     have hl0 := beqT hl0
     subst hl0
     split at e
     ·cases e
      have hPS : PS.toList = [] := by
       cases hq : PS.toList with
       | nil => rfl
       | cons x l => rw [hq] at hp; simp [PR] at hp
      subst j2
      have hrun : (Instr.buildSlice t 0 PS).run c.P w = .ok (.slice (some ⟨w.heap.size, 0, none⟩) 0 0) (w.alloc (.cells #[] el)) := by
       have h0 : ((Array.range 0).map fun _ => (default : Value)) = #[] := by apply Array.ext'; simp
       simp [Instr.buildSlice, run_underlying hu, sizeOf, typeInfo, j1, hPS, Instr.fill, h0, Go.newRow]
      refine ⟨_, _, _, hrun, newRow_ok hr wf fr el 0 [] #[] (fun j hj => by omega) rfl, ?_⟩
      simp only [VR]
      exact ⟨_, _, 0, upd_same _ _ _, rfl, Nat.le_refl _, (fun _ q => by cases q; rfl), (fun q => by cases q)⟩
     ·cases e
    split at e
    ·rename_i z hz
     obtain ⟨it, Z, i1, i2, i3, _⟩ := zcells_ok k hz ρ
     rw [j1] at i1; cases i1
     split at e
     ·cases e
     ·rename_i hsl
      have hsl := beqT hsl
      split at e
      ·cases e
      ·rename_i h0
       have h0 := beqN h0
       split at e
       ·cases e
       ·rename_i hle
        have hle := bleT hle
        split at e
        ·rename_i cs hcs
         cases e
         subst j2
         have hz0 : z.length ≠ 0 := fun q => h0 (by rw [hsl, q, Nat.mul_zero])
         have hmade := made_ok i3 len hz0
         rw [← hsl] at hmade
         obtain ⟨R, r1, r2⟩ := fill_ok ps PS.toList _ _ cs hp hmade hcs
         have hrun := run_buildSlice (P := c.P) w t el len PS R ie Z hu j1 i2 (by omega) h0 r1
         have hlen := r2.length
         refine ⟨_, _, _, hrun, newRow_ok hr wf fr el cs.length cs R (by simpa using whole r2 el) (by simpa using hlen), ?_⟩
         simp only [VR]
         exact ⟨_, _, len, upd_same _ _ _, rfl, Nat.le_refl _, (fun _ q => by cases q; rfl), (fun q => by cases q)⟩
        ·cases e
    ·cases e
   ·cases e
  ·cases e
 ·cases e
theorem makeSlice_ok {ρ : Map} {h h' : Heap} {w : World} (hr : HR ρ h w) (wf : WF h) (fr : ρ h.nxt = none) {t : TypeId} {l kk v : AV} {L K : Value}
  (e : oMakeSlice c h t l kk = some (v, h')) (hl : VR ρ l L) (hk : VR ρ kk K) :
  ∃ z w' ρ', (Instr.makeSlice t L K).run c.P w = .ok z w' ∧ Good ρ h w ρ' h' w' ∧ VR ρ' v z := by
 unfold oMakeSlice at e
 split at e
 ·rename_i ik1 l
  split at e
  ·rename_i ik2 kv
   simp only [VR] at hl hk; subst hl; subst hk
   split at e
   ·rename_i d hd
    have hu := under_eq k hd
    split at e
    ·rename_i el
     split at e
     ·rename_i kn hkn
      obtain ⟨rfl, hkle⟩ := upTo_ok hkn
      split at e
      ·rename_i ln hln
       obtain ⟨rfl, hlle⟩ := upTo_ok hln
       split at e
       ·rename_i i hi
        split at e
        ·rename_i z hz
         obtain ⟨it, Z, i1, i2, i3, i4⟩ := zcells_ok k hz ρ
         rw [hi] at i4; cases i4
         split at e
         ·cases e
         ·rename_i hsl
          have hsl := beqT hsl
          split at e
          ·cases e
          ·rename_i h0
           have h0 := beqN h0
           split at e
           ·cases e
           ·rename_i hby
            have hby := bleT hby
            cases e
            have hb1 : (i.bytes * kn : Nat) ≤ 1000 * 1000000 := Nat.mul_le_mul hby hkle
            have hrun := run_make (P := c.P) w t el i Z hu i1 i2 ik1 ik2 ln kn (by omega) (by omega) (by
             have : ((i.bytes * kn : Nat) : Int) ≤ 1000000000 := by omega
             rw [Int.natCast_mul] at this; omega) (by omega)
            simp only [Int.toNat_natCast] at hrun
            have hz0 : z.length ≠ 0 := fun q => h0 (by omega)
            refine ⟨_, _, _, hrun, newRow_ok hr wf fr el (kn * i.size) z _ (fun j hj => ?_) (by simp [size_madeCells]), ?_⟩
            ·rw [Row.get_new]; exact made_get i3 _ hj hz0
            ·simp only [VR]
             refine ⟨_, _, kn, upd_same _ _ _, rfl, hlle, (fun _ q => by cases q; rfl), (fun q => by cases q)⟩
        ·cases e
       ·cases e
      ·cases e
     ·cases e
    ·cases e
   ·cases e
  ·cases e
 ·cases e
omit k in
theorem newObj_ok {P : Program} {ρ : Map} {h : Heap} {w : World} (hr : HR ρ h w) (wf : WF h) (fr : ρ h.nxt = none) : Good ρ h w (upd ρ h.nxt (w.heap.size, 0)) (h.new (.map [] 0)) (w.alloc (.map #[] 0)) :=
 Good.newBlock hr wf fr _ _ 0 (fun r e => by cases e) ⟨#[], by rw [alloc_at], rfl, fun i p e a => by simp at a⟩
theorem makeMap_ok {ρ : Map} {h h' : Heap} {w : World} (hr : HR ρ h w) (wf : WF h) (fr : ρ h.nxt = none) {t : TypeId} {r : Option AV} {v : AV} {R : Option Value} (e : oMakeMap c h t r = some (v, h')) (ho : VRo ρ r R) :
  ∃ z w' ρ', (Instr.makeMap t R).run c.P w = .ok z w' ∧ Good ρ h w ρ' h' w' ∧ VR ρ' v z := by
 have fin : ∀ (q : v = .mp h.nxt ∧ h' = h.new (.map [] 0)), (Instr.makeMap t R).run c.P w = .ok (.map (some w.heap.size)) (w.alloc (.map #[] 0)) → ∃ z w' ρ', (Instr.makeMap t R).run c.P w = .ok z w' ∧ Good ρ h w ρ' h' w' ∧ VR ρ' v z := fun q run => by
  obtain ⟨rfl, rfl⟩ := q
  exact ⟨_, _, _, run, newObj_ok (P := c.P) hr wf fr, by simp only [VR]; exact ⟨_, _, upd_same _ _ _, rfl⟩⟩
 unfold oMakeMap at e
 split at e
 ·simp only [VRo] at ho; subst ho
  cases e
  exact fin ⟨rfl, rfl⟩ (by simp [Instr.makeMap])
 ·simp only [VRo] at ho
  obtain ⟨y, rfl, hy⟩ := ho
  split at e
  ·simp only [VR] at hy; subst hy
   split at e
   ·rename_i d hd
    have hu := under_eq k hd
    split at e
    ·cases e
     exact fin ⟨rfl, rfl⟩ (by simp [Instr.makeMap, run_underlying hu, asInt, asIntOf])
    ·cases e
   ·cases e
  ·cases e
end
end Go.Px
end
section
namespace Go.Px
theorem bytesA_ok : ∀ {ρ : Map} (l : List AV) (L : List Value) (r : List Nat), bytesA l = some r → VRs ρ l L → ∃ ns : List Int, L = ns.map (Value.int .u8) ∧ ns.map Int.toNat = r
 | ρ, [], L, r, e, h => by
  cases e; simp only [VRs] at h; subst h; exact ⟨[], rfl, rfl⟩
 | ρ, a :: l, L, r, e, h => by
  simp only [VRs] at h
  obtain ⟨x, t, hx, ht, rfl⟩ := h
  have e' : byte1 a (bytesA l) = some r := e
  unfold byte1 at e'
  split at e'
  ·rename_i n
   split at e'
   ·split at e'
    ·rename_i r' hr'
     cases e'
     obtain ⟨ns, h1, h2⟩ := bytesA_ok l t r' hr' ht
     simp only [VR] at hx; subst hx
     exact ⟨n :: ns, by simp [h1], by simp [h2]⟩
    ·cases e'
   ·cases e'
  ·cases e'
theorem foldl_push_ints : ∀ (ns : List Int) (r : ByteArray), ns.foldl (fun r n => r.push (UInt8.ofNat n.toNat)) r = ⟨r.data ++ ((ns.map Int.toNat).map UInt8.ofNat).toArray⟩
 | [], r => by simp
 | n :: ns, r => by
  simp only [List.map_cons, List.foldl_cons]
  rw [foldl_push_ints ns]
  simp [ByteArray.push]
section
variable {c : Ctx} (k : CtxOk c)
include k
/-! ### raw pointers -/
omit k in
theorem rowAt_mono {p : Program} {fits : TypeId → Bool} {e : TypeId} {m n off q : Nat} (h : m ≤ n) : ∀ (d : Nat), rowAt p fits d e m off q = true → rowAt p fits d e n off q = true
 | 0, z => by simp [rowAt] at z
 | d + 1, z => by
  unfold rowAt at z ⊢
  simp only [] at z ⊢
  split at z
  ·cases z
  ·rename_i hs
   rw [if_neg hs]
   simp only [Bool.or_eq_true, Bool.and_eq_true, decide_eq_true_eq] at z ⊢
   rcases z with z | z
   ·exact .inl ⟨⟨z.1.1, by omega⟩, z.2⟩
   ·exact .inr ⟨by omega, z.2⟩
omit k in
theorem liesAt_mono {p : Program} {e : TypeId} {m n off : Nat} (h : m ≤ n) : ∀ (d : Nat) (u : TypeId) (q : Nat), liesAt p d e m off u q = true → liesAt p d e n off u q = true
 | 0, u, q, z => by simp [liesAt] at z
 | d + 1, u, q, z => by
  unfold liesAt at z ⊢
  rw [Bool.or_eq_true] at z ⊢
  rcases z with z | z
  ·exact .inl (rowAt_mono h _ z)
  ·refine .inr ?_
   split at z
   ·rename_i a b hu
    exact liesAt_mono h d _ _ z
   ·cases z
theorem convToU_ok {ρ : Map} {h : Heap} {w : World} (hr : HR ρ h w) {s t : TypeId} {ds : TypeDesc} {x v : AV} {X : Value} (us : c.P.underlying s = some ds) (ut : c.P.underlying t = some .unsafePointer) (e : convToU c h ds x = some v) (hx : VR ρ x X) :
  ∃ z, (convert s t X).run c.P w = .ok z w ∧ VR ρ v z := by
 unfold convToU at e
 split at e
 ·rename_i el
  split at e
  ·cases e
   simp only [VR] at hx; subst hx
   exact ⟨.pointer none, by simp [convert, run_underlying us, run_underlying ut, Conv.unsafePointer], by simp only [VR]⟩
  ·rename_i id off
   split at e
   ·rename_i r hrow
    split at e
    ·rename_i hb
     split at e
     ·rename_i z hz
      split at e
      ·cases e
      ·rename_i hz0
       cases e
       simp only [VR] at hx
       obtain ⟨B, N, hp, rfl⟩ := hx
       have ro := hr.rowAt hrow hp
       have hsh := ro.1
       have hlt := bleT hb
       have hN := ro.2.1
       have hz0 := beqN hz0
       have h1 : ¬ N ≤ off := by omega
       exact ⟨.pointer (some ⟨B, off, none⟩), by simp [convert, run_underlying us, run_underlying ut, Conv.unsafePointer, Conv.seenAt, viewAt, cellsIn, hsh, run_size k hz, hz0, h1], by simp only [VR]; exact ⟨B, N, hp, rfl⟩⟩
     ·cases e
    ·cases e
   ·cases e
  ·cases e
 ·cases e
theorem convToP_ok {ρ : Map} {h : Heap} {w : World} (hr : HR ρ h w) {s t u : TypeId} {ds : TypeDesc} {x v : AV} {X : Value} (us : c.P.underlying s = some ds) (ut : c.P.underlying t = some (.pointer u)) (e : convToP c h ds u x = some v) (hx : VR ρ x X) :
  ∃ z, (convert s t X).run c.P w = .ok z w ∧ VR ρ v z := by
 unfold convToP at e
 split at e
 ·split at e
  ·cases e
   simp only [VR] at hx; subst hx
   exact ⟨.pointer none, by simp [convert, run_underlying us, run_underlying ut, Conv.unsafePointer], by simp only [VR]⟩
  ·rename_i id off
   split at e
   ·rename_i r hrow
    split at e
    ·rename_i z hz
     split at e
     ·cases e
     ·rename_i hz0
      split at e
      ·rename_i hl
       cases e
       simp only [VR] at hx
       obtain ⟨B, N, hp, rfl⟩ := hx
       have ro := hr.rowAt hrow hp
       have hsh := ro.1
       have hN := ro.2.1
       have hz0 := beqN hz0
       have hl2 : liesAt c.P c.P.depth r.t (N / c.P.cellsOf r.t) off u 1 = true := liesAt_mono (Nat.div_le_div_right hN) _ _ _ hl
       exact ⟨.pointer (some ⟨B, off, none⟩), by simp [convert, run_underlying us, run_underlying ut, Conv.unsafePointer, Conv.seenAt, viewAt, hsh, run_size k hz, hz0, variablesAt, hl2], by simp only [VR]; exact ⟨B, N, hp, rfl⟩⟩
      ·cases e
    ·cases e
   ·cases e
  ·cases e
 ·cases e
theorem convert_ok {ρ : Map} {h h' : Heap} {w : World} (hr : HR ρ h w) (wf : WF h) (fr : Free ρ h.nxt h'.nxt) {s t : TypeId} {x v : AV} {X : Value} (e : oConvert c h s t x = some (v, h')) (hx : VR ρ x X) :
  ∃ z w' ρ', (convert s t X).run c.P w = .ok z w' ∧ Good ρ h w ρ' h' w' ∧ VR ρ' v z := by
 unfold oConvert at e
 split at e
 ·cases e
 ·rename_i ds hds
  have us := under_eq k hds
  split at e
  ·cases e
  ·rename_i dt hdt
   have ut := under_eq k hdt
   split at e
   ·rename_i ik
    split at e
    ·rename_i jk n
     cases e
     simp only [VR] at hx; subst hx
     exact ⟨.int ik (ik.wrap n), w, ρ, by simp [convert, run_underlying us, run_underlying ut, Conv.intToInt], Good.refl hr wf, by simp only [VR, wr_eq]⟩
    ·cases e
   ·split at e
    ·rename_i u hu
     cases e
     obtain ⟨z, z1, z2⟩ := convToU_ok k hr us ut hu hx
     exact ⟨z, w, ρ, z1, Good.refl hr wf, z2⟩
    ·cases e
   ·split at e
    ·rename_i u hu
     cases e
     obtain ⟨z, z1, z2⟩ := convToP_ok k hr us ut hu hx
     exact ⟨z, w, ρ, z1, Good.refl hr wf, z2⟩
    ·cases e
   ·split at e
    ·split at e
     ·rename_i l
      cases e
      simp only [VR] at hx; subst hx
      exact ⟨.string (bs l), w, ρ, by simp [convert, run_underlying us, run_underlying ut], Good.refl hr wf, by simp only [VR]⟩
     ·cases e
    ·rename_i el
     split at e
     ·rename_i de hde
      have ue := under_eq k hde
      split at e
      ·split at e
       ·split at e
        ·-- nil
         cases e
         simp only [VR] at hx; subst hx
         refine ⟨.string ByteArray.empty, w, ρ, ?_, Good.refl hr wf, by simp only [VR]; rfl⟩
         rw [run_convert_bytes_string w s t el _ _ _ us ue ut]
         simp [Conv.bytesToString]
        ·cases e
         simp only [VR] at hx
         obtain ⟨B, N, o, C, hp, rfl⟩ := hx
         refine ⟨.string ByteArray.empty, w, ρ, ?_, Good.refl hr wf, by simp only [VR]; rfl⟩
         rw [run_convert_bytes_string w s t el _ _ _ us ue ut]
         rw [run_bytesToString w _ 0 C [] (by simp [loadCells, loadCellsFrom])]
         rfl
        ·rename_i n z lr
         split at e
         ·rename_i hz
          have hz := beqT hz
          subst hz
          split at e
          ·rename_i l hl
           cases e
           simp only [VR] at hx
           obtain ⟨hlen, ⟨rfl, hx⟩ | ⟨B, o, C, L, rfl, hC, l1, l3⟩⟩ := hx
           ·have : lr = [] := List.length_eq_zero_iff.1 (by omega)
            subst this
            have hl2 : some [] = some l := hl
            cases hl2
            rcases hx with rfl | ⟨a, C, rfl⟩
            ·refine ⟨.string ByteArray.empty, w, ρ, ?_, Good.refl hr wf, by simp only [VR]; rfl⟩
             rw [run_convert_bytes_string w s t el _ _ _ us ue ut]
             simp [Conv.bytesToString]
            ·refine ⟨.string ByteArray.empty, w, ρ, ?_, Good.refl hr wf, by simp only [VR]; rfl⟩
             rw [run_convert_bytes_string w s t el _ _ _ us ue ut]
             rw [run_bytesToString w _ 0 C [] (by simp [loadCells, loadCellsFrom])]
             rfl
           ·obtain ⟨ns, n1, n2⟩ := bytesA_ok _ L l hl (l1.mono (Sub.low ρ))
            have hld := run_loadCells_list (P := c.P) w ⟨B, o, none⟩ L (fun j v hv => by rw [add_off]; exact hr.fz B _ v (l3 j v hv))
            have hn : L.length = n := by rw [← l1.length]; omega
            rw [hn, n1] at hld
            refine ⟨.string (bs l), w, ρ, ?_, Good.refl hr wf, by simp only [VR]⟩
            rw [run_convert_bytes_string w s t el _ _ _ us ue ut, run_bytesToString w _ n C ns hld, foldl_push_ints, n2]
            have he0 : ByteArray.empty.data = #[] := rfl
            rw [he0]
            simp [bs]
          ·cases e
         ·cases e
        ·rename_i id off len cap z
         split at e
         ·rename_i hz
          split at e
          ·rename_i r hrow
           split at e
           ·rename_i hb
            have hb := bleT hb
            split at e
            ·rename_i l hl
             cases e
             simp only [VR] at hx
             obtain ⟨B, N, C, hp, rfl, _⟩ := hx
             have ro := hr.rowAt hrow hp
             obtain ⟨L, l1, l2, l3⟩ := RowOk.reads ro len off hb
             obtain ⟨ns, n1, n2⟩ := bytesA_ok _ L l hl l1
             have hld := run_loadCells_list (P := c.P) w ⟨B, off, none⟩ L (fun j v hv => by rw [add_off]; exact l3 j v hv)
             rw [l2, n1] at hld
             refine ⟨.string (bs l), w, ρ, ?_, Good.refl hr wf, by simp only [VR]⟩
             rw [run_convert_bytes_string w s t el _ _ _ us ue ut, run_bytesToString w _ len C ns hld, foldl_push_ints, n2]
             have he0 : ByteArray.empty.data = #[] := rfl
             rw [he0]
             simp [bs]
            ·cases e
           ·cases e
          ·cases e
         ·cases e
        ·cases e
       ·cases e
      ·cases e
     ·cases e
    ·cases e
   ·rename_i el
    split at e
    ·split at e
     ·rename_i de hde
      have ue := under_eq k hde
      split at e
      ·split at e
       ·split at e
        ·rename_i l
         cases e
         simp only [VR] at hx; subst hx
         have fr0 : ρ h.nxt = none := fr _ (Nat.le_refl _) (Nat.lt_succ_self _)
         have hrun := run_bytes_of_string (P := c.P) w s t el (bs l) us ut ue
         have hge := grownCap_ge w (bs l).size 0 el
         rw [bs_size] at hrun hge
         generalize hG : grownCap w l.length 0 el = G at hrun hge
         have hsz : (bytesRow (bs l) G).size = G := by
          unfold bytesRow
          have h2 := bs_size l
          have h3 : (bs l).data.size = l.length := h2
          simp [h2, h3]; omega
         rw [hsz] at hrun
         have g0 : Good ρ h w ρ h w.drew := Good.draw (Good.refl hr wf) rfl ⟨rfl, rfl, rfl, Nat.le_refl _⟩
         have hr1 : HR ρ h w.drew := hr.same rfl
         have g1 : Good ρ h w.drew (upd ρ h.nxt (w.drew.heap.size, G)) (newRow h el l.length .leaf (l.map fun b => .int .u8 (.ofNat (b % 256)))) (w.drew.alloc (.cells (bytesRow (bs l) G) el (G, G + 1))) := by
          refine Good.newBlock hr1 wf fr0 (.row ⟨el, l.length, .leaf, _, none⟩) _ G (fun r e => by cases e; rfl) ?_
          refine ⟨?_, hge, fun j hj => ?_, fun j hj => ?_⟩
          ·unfold World.shape?; rw [alloc_at]; simp [hsz]
          ·rw [World.frozen?_alloc_mark]; simp; omega
          ·have hj2 : j < l.length := hj
           have hj3 : j < (bs l).data.size := by have h2 : (bs l).data.size = l.length := bs_size l; omega
           refine ⟨_, by rw [World.cell?_alloc_mark]; exact bytesRow_at (bs l) G j hj3, ?_⟩
           rw [Row.get_new, List.length_map, Nat.mod_eq_of_lt hj2, List.getElem?_map, List.getElem?_eq_getElem hj2]
           simp [VR, bs]
         exact ⟨_, _, _, hrun, g0.trans g1, by
          simp only [VR]
          exact ⟨_, _, G, upd_same _ _ _, rfl, hge, (fun _ q => by cases q), (fun _ => by omega)⟩⟩
        ·cases e
       ·cases e
      ·cases e
     ·cases e
    ·cases e
   ·cases e
end
end Go.Px
end
section
namespace Go.Px
open Go.MapKept (IsKey bytes_beq run_checkKey run_findKey)
theorem setObj_ok {P : Program} {w : World} {r : Nat} {o : Obj} (o' : Obj) (h : w.heap[r]? = some o) (hc : ∀ c t f, o ≠ .cells c t f) : (setObj r o').run P w = .ok () (w.putObj r o') := by
 cases o <;> first | exact absurd rfl (hc _ _ _) | simp [setObj, Sem.run, h, World.putObj]
def PK (d : TypeDesc) (a : AV) (K : Value) : Prop := (∃ j n, d = .int j ∧ a = .int j n ∧ K = .int j n) ∨ ∃ l, d = .string ∧ a = .str l ∧ K = .string (bs l)
theorem PK.isKey {d : TypeDesc} {a : AV} {K : Value} (h : PK d a K) : IsKey d K := by
 rcases h with ⟨j, n, rfl, _, rfl⟩ | ⟨l, rfl, _, rfl⟩ <;> simp [IsKey]
theorem bs_eq {a b : List Nat} (h : strEq a b = true) : bs a = bs b := by
 rw [strEq_eq] at h
 have : a.map UInt8.ofNat = b.map UInt8.ofNat := by simpa using h
 simp only [bs, this]
theorem bs_ne {a b : List Nat} (h : strEq a b = false) : ¬ bs a = bs b := fun e => by
 rw [strEq_eq] at h
 have : (bs a).data.toList = (bs b).data.toList := by rw [e]
 simp [bs] at this
 simp [this] at h
theorem keyEq_ok {ρ : Map} {d : TypeDesc} {a b : AV} {K E : Value} {q : Bool} (h : PK d a K) (e : keyEq a b = some q) (hb : VR ρ b E) : Instr.sameNow d K E = some q ∧ (q = true → E = K) := by
 rcases h with ⟨j, n, rfl, rfl, rfl⟩ | ⟨l, rfl, rfl, rfl⟩
 ·unfold keyEq at e
  simp only [] at e
  split at e
  ·rename_i i m
   split at e
   ·rename_i hk
    cases e
    obtain rfl := (ikEq_eq _ _).1 hk
    simp only [VR] at hb; subst hb
    refine ⟨by simp [Instr.sameNow, ieq_eq], fun q => ?_⟩
    rw [ieq_eq] at q
    have : n = m := by simpa using q
    rw [this]
   ·cases e
  ·cases e
 ·unfold keyEq at e
  simp only [] at e
  split at e
  ·rename_i y
   cases e
   simp only [VR] at hb; subst hb
   cases hq : strEq l y with
   | true =>
    refine ⟨?_, fun _ => by rw [bs_eq hq]⟩
    have := bs_eq hq
    simp [Instr.sameNow, this, bytes_beq]
   | false =>
    refine ⟨?_, fun q => by cases q⟩
    have := bs_ne hq
    simp only [Instr.sameNow, Option.some.injEq]
    rw [Bool.eq_false_iff]
    intro hc
    exact this ((bytes_beq _ _).1 hc)
  ·cases e
theorem find_ok {ρ : Map} {d : TypeDesc} {a : AV} {K : Value} (h : PK d a K) : ∀ (es : List (AV × AV × Nat)) (ES : List MapEntry) (i : Nat) (r : Option (Nat × AV × Nat)), MapR ρ es ES → findA a es i = some r →
  (r = none ∧ Instr.findNow d K ES i = some none) ∨ ∃ j v b k E, r = some (i + j, v, b) ∧ es[j]? = some (k, v, b) ∧ ES[j]? = some E ∧ Instr.findNow d K ES i = some (some (i + j, E.val)) ∧ E.key = K
 | [], ES, i, r, hm, e => by
  cases e
  have : ES = [] := List.length_eq_zero_iff.1 hm.1.symm
  subst this
  exact .inl ⟨rfl, rfl⟩
 | p :: es, [], i, r, hm, e => by simp [MapR] at hm
 | p :: es, E :: ES, i, r, hm, e => by
  have e' : (match keyEq a p.1 with
   | some true => some (some (i, p.2))
   | some false => findA a es (i + 1)
   | none => none) = some r := e
  obtain ⟨k1, k2, k3⟩ := hm.2 0 p E rfl rfl
  have hm' : MapR ρ es ES := ⟨by simpa using hm.1, fun j p' E' q1 q2 => hm.2 (j + 1) p' E' (by simpa using q1) (by simpa using q2)⟩
  split at e'
  ·rename_i hq
   obtain ⟨s1, s2⟩ := keyEq_ok h hq k1
   cases e'
   exact .inr ⟨0, p.2.1, p.2.2, p.1, E, rfl, rfl, rfl, by simp [Instr.findNow, s1], s2 rfl⟩
  ·rename_i hq
   obtain ⟨s1, s2⟩ := keyEq_ok h hq k1
   rcases find_ok h es ES (i + 1) r hm' e' with ⟨h1, h2⟩ | ⟨j, v, b, kk, E', h1, h2, h3, h4, h5⟩
   ·exact .inl ⟨h1, by simp [Instr.findNow, s1, h2]⟩
   ·exact .inr ⟨j + 1, v, b, kk, E', by rw [h1]; congr 2; omega, by simpa using h2, by simpa using h3, by simp [Instr.findNow, s1, h4]; omega, h5⟩
  ·cases e'
theorem MapR.set {ρ : Map} {es : List (AV × AV × Nat)} {ES : List MapEntry} (h : MapR ρ es ES) (i : Nat) {k v : AV} {b : Nat} {E : MapEntry} (h1 : VR ρ k E.key) (h2 : VR ρ v E.val) (h3 : E.born = b) :
  MapR ρ (es.set i (k, v, b)) (ES.set i E) := by
 refine ⟨by simp [h.1], fun j p e a1 a2 => ?_⟩
 rw [List.getElem?_set] at a1 a2
 by_cases hij : i = j
 ·subst hij
  rw [if_pos rfl] at a1 a2
  split at a1
  ·split at a2
   ·cases a1; cases a2; exact ⟨h1, h2, h3⟩
   ·cases a2
  ·cases a1
 ·rw [if_neg hij] at a1 a2; exact h.2 j p e a1 a2
theorem MapR.push {ρ : Map} {es : List (AV × AV × Nat)} {ES : List MapEntry} (h : MapR ρ es ES) {k v : AV} {b : Nat} {E : MapEntry} (h1 : VR ρ k E.key) (h2 : VR ρ v E.val) (h3 : E.born = b) :
  MapR ρ (es ++ [(k, v, b)]) (ES ++ [E]) := by
 refine ⟨by simp [h.1], fun j p e a1 a2 => ?_⟩
 have hl := h.1
 by_cases hj : j < es.length
 ·rw [List.getElem?_append_left hj] at a1
  rw [List.getElem?_append_left (by omega)] at a2
  exact h.2 j p e a1 a2
 ·rw [List.getElem?_append_right (by omega)] at a1
  rw [List.getElem?_append_right (by omega)] at a2
  have hj0 : j - es.length = 0 := by
   have := (List.getElem?_eq_some_iff.1 a1).1
   simp at this; omega
  rw [hj0] at a1
  rw [← hl, hj0] at a2
  simp at a1 a2
  subst a1; subst a2
  exact ⟨h1, h2, h3⟩
theorem MapR.erase {ρ : Map} : ∀ {es : List (AV × AV × Nat)} {ES : List MapEntry}, MapR ρ es ES → ∀ i, MapR ρ (es.eraseIdx i) (ES.eraseIdx i)
 | [], ES, h, i => by
  have : ES = [] := List.length_eq_zero_iff.1 h.1.symm
  subst this; simpa using h
 | p :: es, [], h, i => by simp [MapR] at h
 | p :: es, E :: ES, h, 0 => ⟨by simpa using h.1, fun j p' E' q1 q2 => h.2 (j + 1) p' E' (by simpa using q1) (by simpa using q2)⟩
 | p :: es, E :: ES, h, i + 1 => by
  have hm' : MapR ρ es ES := ⟨by simpa using h.1, fun j p' E' q1 q2 => h.2 (j + 1) p' E' (by simpa using q1) (by simpa using q2)⟩
  have ih := MapR.erase hm' i
  refine ⟨by simpa using ih.1, fun j p' E' q1 q2 => ?_⟩
  cases j with
  | zero => exact h.2 0 p' E' (by simpa using q1) (by simpa using q2)
  | succ j => exact ih.2 j p' E' (by simpa using q1) (by simpa using q2)
theorem findKey_ok {P : Program} {ρ : Map} {kt : TypeId} {d : TypeDesc} {a : AV} {K : Value} (hd : P.underlying kt = some d) (h : PK d a K) (w : World) {es : List (AV × AV × Nat)} {ES : List MapEntry} {r : Option (Nat × AV × Nat)} (hm : MapR ρ es ES) (e : findA a es 0 = some r) :
  (r = none ∧ (Instr.findKey kt K ES).run P w = .ok none w) ∨ ∃ j v b k E, r = some (j, v, b) ∧ es[j]? = some (k, v, b) ∧ ES[j]? = some E ∧ (Instr.findKey kt K ES).run P w = .ok (some (j, E.val)) w ∧ E.key = K ∧ VR ρ v E.val ∧ E.born = b := by
 rcases find_ok h es ES 0 r hm e with ⟨h1, h2⟩ | ⟨j, v, b, k, E, h1, h2, h3, h4, h5⟩
 ·exact .inl ⟨h1, run_findKey hd h2⟩
 ·obtain ⟨_, q, q2⟩ := hm.2 j _ _ h2 h3
  rw [Nat.zero_add] at h1 h4
  exact .inr ⟨j, v, b, k, E, h1, h2, h3, run_findKey hd h4, h5, q, q2⟩
theorem HR.mapAt {ρ : Map} {h : Heap} {w : World} (hr : HR ρ h w) {i B N : Nat} {es : List (AV × AV × Nat)} {clock : Nat} (e : h.get i = .map es clock) (p : ρ i = some (B, N)) :
  ∃ ES, w.heap[B]? = some (.map ES clock) ∧ MapR ρ es ES.toList := by
 have := hr.ok i B N p (by simp [Heap.ok, e])
 rw [e] at this; exact this
theorem putMap_ok {ρ : Map} {h : Heap} {w : World} (hr : HR ρ h w) (wf : WF h) {i B N : Nat} {es es' : List (AV × AV × Nat)} {ES : Array MapEntry} {clock clock' : Nat} (e : h.get i = .map es clock) (p : ρ i = some (B, N))
  (hm : MapR ρ es' ES.toList) : Good ρ h w ρ (h.put i (.map es' clock')) (w.putObj B (.map ES clock')) :=
 Good.putBlock hr wf p _ _ _ e rfl (by simp) rfl ⟨ES, putObj_at _ (hr.lt i B N p), hm⟩
section
variable {c : Ctx} (k : CtxOk c)
include k
theorem okKey_ok {ρ : Map} {kt : TypeId} {a : AV} {K : Value} (e : okKey c kt a = true) (h : VR ρ a K) : ∃ d, c.P.underlying kt = some d ∧ PK d a K := by
 unfold okKey at e
 split at e
 ·rename_i d hd
  refine ⟨d, under_eq k hd, ?_⟩
  split at e
  ·split at e
   ·rename_i i n
    obtain rfl := (ikEq_eq _ _).1 e
    simp only [VR] at h; subst h
    exact .inl ⟨_, n, rfl, rfl, rfl⟩
   ·cases e
  ·split at e
   ·simp only [VR] at h; subst h
    exact .inr ⟨_, rfl, rfl, rfl⟩
   ·cases e
  ·cases e
 ·cases e
theorem lookup_ok {ρ : Map} {h : Heap} {w : World} (hr : HR ρ h w) {t : TypeId} {x kk v : AV} {X K : Value} {ok : Bool} (e : oLookup c h t x kk ok = some v) (hx : VR ρ x X) (hk : VR ρ kk K) :
  ∃ z, (Instr.lookup t X K ok).run c.P w = .ok z w ∧ VR ρ v z := by
 unfold oLookup at e
 split at e
 ·rename_i d hd
  have hu := under_eq k hd
  split at e
  ·rename_i kt el
   split at e
   ·cases e
   ·rename_i hok
    obtain ⟨dk, hdk, pk⟩ := okKey_ok k hok hk
    split at e
    ·cases e
    ·rename_i r hf
     unfold lookFind at hf
     split at hf
     ·simp only [VR] at hx; subst hx
      rcases findKey_ok hdk pk w (ρ := ρ) (ES := []) ⟨rfl, fun i p e a => by simp at a⟩ (show findA kk [] 0 = some r from hf) with ⟨rfl, h2⟩ | ⟨j, u, b, k', E, rfl, h2, h3, _⟩
      ·unfold lookAns at e
       simp only [] at e
       split at e
       ·rename_i z hz
        cases e
        obtain ⟨Z, z1, z2, _⟩ := run_zero k hz ρ
        cases ok with
        | true => exact ⟨.tuple #[Z, .bool false], by simp [Instr.lookup, run_underlying hu, run_checkKey hdk pk.isKey, h2, z1], by simp only [okPair, VR]; exact ⟨[Z, .bool false], by simp [VRs, VR, z2], rfl⟩⟩
        | false => exact ⟨Z, by simp [Instr.lookup, run_underlying hu, run_checkKey hdk pk.isKey, h2, z1], z2⟩
       ·cases e
      ·simp at h2
     ·rename_i id
      simp only [VR] at hx
      obtain ⟨B, N, hp, rfl⟩ := hx
      split at hf
      ·rename_i es clock hm
       obtain ⟨ES, m1, m2⟩ := hr.mapAt hm hp
       have g : (getObj B).run c.P w = .ok (.map ES clock) w := Go.MapKept.run_getObj_map m1
       rcases findKey_ok hdk pk w m2 hf with ⟨rfl, h2⟩ | ⟨j, u, b, k', E, rfl, h2, h3, h4, h5, q, _⟩
       ·unfold lookAns at e
        simp only [] at e
        split at e
        ·rename_i z hz
         cases e
         obtain ⟨Z, z1, z2, _⟩ := run_zero k hz ρ
         cases ok with
         | true => exact ⟨.tuple #[Z, .bool false], by simp [Instr.lookup, run_underlying hu, g, run_checkKey hdk pk.isKey, h2, z1], by simp only [okPair, VR]; exact ⟨[Z, .bool false], by simp [VRs, VR, z2], rfl⟩⟩
         | false => exact ⟨Z, by simp [Instr.lookup, run_underlying hu, g, run_checkKey hdk pk.isKey, h2, z1], z2⟩
        ·cases e
       ·unfold lookAns at e
        simp only [] at e
        cases e
        cases ok with
        | true => exact ⟨.tuple #[E.val, .bool true], by simp [Instr.lookup, run_underlying hu, g, run_checkKey hdk pk.isKey, h4], by simp only [okPair, VR]; exact ⟨[E.val, .bool true], by simp [VRs, VR]; exact q, rfl⟩⟩
        | false => exact ⟨E.val, by simp [Instr.lookup, run_underlying hu, g, run_checkKey hdk pk.isKey, h4], q⟩
      ·cases hf
     ·cases hf
  ·cases e
 ·cases e
omit k in
theorem sameBits_key {d : TypeDesc} {a : AV} {K : Value} (h : PK d a K) (n : Nat) : Instr.sameBits n K K = true := by
 rcases h with ⟨j, m, _, _, rfl⟩ | ⟨l, _, _, rfl⟩
 ·cases n <;> simp [Instr.sameBits]
 ·have : (bs l == bs l) = true := (bytes_beq _ _).2 rfl
  cases n <;> simpa [Instr.sameBits] using this
omit k in
theorem keyStays {P : Program} {d : TypeDesc} {a : AV} {K : Value} (h : PK d a K) (w : World) : (Instr.keyThatStays K K).run P w = .ok K w := by
 unfold Instr.keyThatStays
 rw [if_pos (sameBits_key h _)]
 rfl
omit k in
theorem toList_modify {α : Type} (xs : Array α) (i : Nat) (f : α → α) {x : α} (h : xs.toList[i]? = some x) : (xs.modify i f).toList = xs.toList.set i (f x) := by
 apply List.ext_getElem?
 intro j
 rw [Array.getElem?_toList, Array.getElem?_modify, List.getElem?_set]
 have hi := (List.getElem?_eq_some_iff.1 h).1
 by_cases e : i = j
 ·subst e
  rw [if_pos rfl, if_pos rfl]
  rw [Array.getElem?_toList] at h
  rw [h]
  simp at hi
  simp [hi]
 ·rw [if_neg e, if_neg e, Array.getElem?_toList]
theorem mapUpdate_ok {ρ : Map} {h h' : Heap} {w : World} (hr : HR ρ h w) (wf : WF h) {t : TypeId} {x kk v : AV} {X K V : Value} (e : oMapUpdate c h t x kk v = some h') (hx : VR ρ x X) (hk : VR ρ kk K) (hv : VR ρ v V) :
  ∃ w', (Instr.mapUpdate t X K V).run c.P w = .ok () w' ∧ Good ρ h w ρ h' w' := by
 unfold oMapUpdate at e
 split at e
 ·rename_i d hd
  have hu := under_eq k hd
  split at e
  ·rename_i kt el
   split at e
   ·cases e
   ·rename_i hok
    obtain ⟨dk, hdk, pk⟩ := okKey_ok k hok hk
    split at e
    ·rename_i id
     simp only [VR] at hx
     obtain ⟨B, N, hp, rfl⟩ := hx
     split at e
     ·rename_i es clock hm
      obtain ⟨ES, m1, m2⟩ := hr.mapAt hm hp
      have g : (getObj B).run c.P w = .ok (.map ES clock) w := Go.MapKept.run_getObj_map m1
      have gs : ∀ o', (setObj B o').run c.P w = .ok () (w.putObj B o') := fun o' => setObj_ok o' m1 (fun _ _ _ q => by cases q)
      split at e
      ·rename_i i u b hf
       cases e
       rcases findKey_ok hdk pk w m2 hf with ⟨q, _⟩ | ⟨j, u', b', k', E, q1, h2, h3, h4, h5, q, hb⟩
       ·cases q
       ·cases q1
        refine ⟨_, ?_, putMap_ok hr wf hm hp (clock' := clock) (ES := ES.modify i fun e => { e with key := K, val := V }) ?_⟩
        ·have e3 : ES[i]? = some E := by simpa using h3
         simp [Instr.mapUpdate, run_underlying hu, g, run_checkKey hdk pk.isKey, h4, e3, h5, keyStays pk, gs]
        ·rw [toList_modify _ _ _ h3]
         exact m2.set i hk hv hb
      ·rename_i hf
       cases e
       rcases findKey_ok hdk pk w m2 hf with ⟨_, h2⟩ | ⟨j, u', b', k', E, q1, _⟩
       ·refine ⟨_, ?_, putMap_ok hr wf hm hp (clock' := clock + 1) (ES := ES.push { key := K, val := V, born := clock }) ?_⟩
        ·simp [Instr.mapUpdate, run_underlying hu, g, run_checkKey hdk pk.isKey, h2, gs]
        ·rw [Array.toList_push]
         exact m2.push hk hv rfl
       ·cases q1
      ·cases e
     ·cases e
    ·cases e
  ·cases e
 ·cases e
theorem mapEntry_ok {ρ : Map} {h h' : Heap} {w : World} (hr : HR ρ h w) (wf : WF h) {t : TypeId} {x kk v : AV} {X K : Value} (e : oMapEntry c h t x kk = some (v, h')) (hx : VR ρ x X) (hk : VR ρ kk K) :
  ∃ z w', (Instr.mapEntry t X K).run c.P w = .ok z w' ∧ Good ρ h w ρ h' w' ∧ VR ρ v z := by
 unfold oMapEntry at e
 split at e
 ·rename_i d hd
  have hu := under_eq k hd
  split at e
  ·rename_i kt el
   split at e
   ·cases e
   ·rename_i hok
    obtain ⟨dk, hdk, pk⟩ := okKey_ok k hok hk
    split at e
    ·rename_i id
     simp only [VR] at hx
     obtain ⟨B, N, hp, rfl⟩ := hx
     split at e
     ·rename_i es clock hm
      obtain ⟨ES, m1, m2⟩ := hr.mapAt hm hp
      have g : (getObj B).run c.P w = .ok (.map ES clock) w := Go.MapKept.run_getObj_map m1
      have gs : ∀ o', (setObj B o').run c.P w = .ok () (w.putObj B o') := fun o' => setObj_ok o' m1 (fun _ _ _ q => by cases q)
      split at e
      ·rename_i i u b hf
       cases e
       rcases findKey_ok hdk pk w m2 hf with ⟨q, _⟩ | ⟨j, u', b', k', E, q1, h2, h3, h4, h5, q, hb⟩
       ·cases q
       ·cases q1
        have e3 : ES[i]? = some E := by simpa using h3
        refine ⟨.tuple #[E.val, goInt E.born], _, ?_, putMap_ok hr wf hm hp (clock' := clock) (ES := ES.modify i fun e => { e with key := K }) ?_, ?_⟩
        ·simp [Instr.mapEntry, run_underlying hu, g, run_checkKey hdk pk.isKey, h4, e3, h5, keyStays pk, gs]
        ·rw [toList_modify _ _ _ h3]
         exact m2.set i hk q hb
        ·simp only [VR]
         exact ⟨[E.val, goInt E.born], by simp [VRs, VR, goInt, hb]; exact q, rfl⟩
      ·rename_i hf
       split at e
       ·rename_i z hz
        cases e
        obtain ⟨Z, z1, z2, _⟩ := run_zero k hz ρ
        rcases findKey_ok hdk pk w m2 hf with ⟨_, h2⟩ | ⟨j, u', b', k', E, q1, _⟩
        ·refine ⟨.tuple #[Z, goInt clock], _, ?_, putMap_ok hr wf hm hp (clock' := clock + 1) (ES := ES.push { key := K, val := Z, born := clock }) ?_, ?_⟩
         ·simp [Instr.mapEntry, run_underlying hu, g, run_checkKey hdk pk.isKey, h2, z1, gs]
         ·rw [Array.toList_push]
          exact m2.push hk z2 rfl
         ·simp only [VR]
          exact ⟨[Z, goInt clock], by simp [VRs, VR, goInt]; exact z2, rfl⟩
        ·cases q1
       ·cases e
      ·cases e
     ·cases e
    ·cases e
  ·cases e
 ·cases e
end
end Go.Px
end
section
namespace Go.Px
open Go.MapKept (IsKey bytes_beq run_checkKey run_findKey)
theorem stamp_ok {ρ : Map} {b : Nat} : ∀ (es : List (AV × AV × Nat)) (ES : List MapEntry) (i n : Nat), MapR ρ es ES → stampA b es i = some n →
  ∃ j p E, n = i + j ∧ es[j]? = some p ∧ ES[j]? = some E ∧ ES.findIdx? (fun e => (e.born : Int) == (b : Int)) = some j ∧ ES.find? (fun e => e.born == b) = some E
 | [], ES, i, n, hm, e => by cases e
 | p :: es, [], i, n, hm, e => by simp [MapR] at hm
 | p :: es, E :: ES, i, n, hm, e => by
  have e' : (match Nat.beq p.2.2 b with | true => some i | false => stampA b es (i + 1)) = some n := e
  obtain ⟨_, _, k3⟩ := hm.2 0 p E rfl rfl
  have hm' : MapR ρ es ES := ⟨by simpa using hm.1, fun j p' E' q1 q2 => hm.2 (j + 1) p' E' (by simpa using q1) (by simpa using q2)⟩
  split at e'
  ·rename_i hq
   have hq := beqT hq
   cases e'
   have hb : E.born = b := by rw [k3, hq]
   exact ⟨0, p, E, rfl, rfl, rfl, by simp [List.findIdx?_cons, hb], by simp [List.find?_cons, hb]⟩
  ·rename_i hq
   have hq := beqN hq
   have hb : ¬ E.born = b := by rw [k3]; exact hq
   obtain ⟨j, p', E', h1, h2, h3, h4, h5⟩ := stamp_ok es ES (i + 1) n hm' e'
   refine ⟨j + 1, p', E', by omega, by simpa using h2, by simpa using h3, ?_, ?_⟩
   ·have hb2 : ((E.born : Int) == (b : Int)) = false := by simp; omega
    rw [List.findIdx?_cons, hb2, h4]; rfl
   ·rw [List.find?_cons]
    have : (E.born == b) = false := by simpa using hb
    rw [this]; exact h5
theorem HR.iterAt {ρ : Map} {h : Heap} {w : World} (hr : HR ρ h w) {i B N : Nat} {m : Option Nat} {since last : Nat} {seen : List Nat} (e : h.get i = .mit m since seen last) (p : ρ i = some (B, N)) :
  ∃ M, (m = none → M = none) ∧ (∀ i, m = some i → ∃ C K, ρ i = some (C, K) ∧ M = some C) ∧ w.heap[B]? = some (.mapIter M since seen.toArray last) := by
 have := hr.ok i B N p (by simp [Heap.ok, e])
 rw [e] at this
 obtain ⟨M, h1, h2⟩ := this
 cases m with
 | none => exact ⟨M, fun _ => h1, fun i q => (by cases q), h2⟩
 | some j => exact ⟨M, fun q => (by cases q), fun i q => (by cases q; exact h1), h2⟩
theorem entryStore_ok {P : Program} {ρ : Map} {h h' : Heap} {w : World} (hr : HR ρ h w) (wf : WF h) {x s v : AV} {X S V : Value} (e : oEntryStore h x s v = some h') (hx : VR ρ x X) (hs : VR ρ s S) (hv : VR ρ v V) (t : TypeId) :
  ∃ w', (Instr.entryStore t X S V).run P w = .ok () w' ∧ Good ρ h w ρ h' w' := by
 unfold oEntryStore at e
 split at e
 ·rename_i id
  simp only [VR] at hx
  obtain ⟨B, N, hp, rfl⟩ := hx
  split at e
  ·rename_i ik n
   simp only [VR] at hs; subst hs
   split at e
   ·rename_i b
    split at e
    ·rename_i es clock hm
     obtain ⟨ES, m1, m2⟩ := hr.mapAt hm hp
     have g : (getObj B).run P w = .ok (.map ES clock) w := Go.MapKept.run_getObj_map m1
     have gs : ∀ o', (setObj B o').run P w = .ok () (w.putObj B o') := fun o' => setObj_ok o' m1 (fun _ _ _ q => by cases q)
     split at e
     ·rename_i i hi
      split at e
      ·rename_i k' v' b' hn
       cases e
       rw [nth_eq] at hn
       obtain ⟨j, p, E, h1, h2, h3, h4, _⟩ := stamp_ok es ES.toList 0 i m2 hi
       obtain rfl : i = j := by omega
       rw [h2] at hn; cases hn
       obtain ⟨q1, q2, q3⟩ := m2.2 i _ _ h2 h3
       refine ⟨_, ?_, putMap_ok hr wf hm hp (clock' := clock) (ES := ES.modify i fun e => { e with val := V }) ?_⟩
       ·have h4' : ES.findIdx? (fun e => (e.born : Int) == (b : Int)) = some i := (by obtain ⟨l⟩ := ES; simpa using h4)
        simp [Instr.entryStore, g, asInt, asIntOf, gs, h4']
       ·rw [toList_modify _ _ _ h3]
        exact m2.set i q1 hv q3
      ·cases e
     ·cases e
    ·cases e
   ·cases e
  ·cases e
 ·cases e
theorem iter_alloc {ρ : Map} {h : Heap} {w : World} (hr : HR ρ h w) (wf : WF h) (fr : ρ h.nxt = none) (m : Option Nat) (M : Option Nat) (since : Nat) (last : Nat) (hm0 : m = none → M = none) (hm1 : ∀ i, m = some i → ∃ C K, ρ i = some (C, K) ∧ M = some C) :
  Good ρ h w (upd ρ h.nxt (w.heap.size, 0)) (h.new (.mit m since [] last)) (w.alloc (.mapIter M since #[] last)) := by
 refine Good.newBlock hr wf fr _ _ 0 (fun r e => by cases e) ⟨M, ?_, by rw [alloc_at]⟩
 cases m with
 | none => exact hm0 rfl
 | some i => obtain ⟨C, K, a, b⟩ := hm1 _ rfl; exact ⟨C, K, upd_sub fr _ _ a, b⟩
theorem next_ok {P : Program} {ρ : Map} {h h' : Heap} {w : World} (hr : HR ρ h w) (wf : WF h) {x v : AV} {X : Value} {str : Bool} (e : oNext h x str = some (v, h')) (hx : VR ρ x X) (t : TypeId) :
  ∃ z w', (Instr.next X str t).run P w = .ok z w' ∧ Good ρ h w ρ h' w' ∧ VR ρ v z := by
 unfold oNext at e
 split at e
 ·rename_i id off
  simp only [VR] at hx
  obtain ⟨B, N, hp, rfl⟩ := hx
  split at e
  ·cases e
  ·rename_i h0
   obtain rfl : off = 0 := beqT h0
   split at e
   ·cases e
   ·split at e
    ·rename_i m since seen last hit
     obtain ⟨M, hM0, hM1, i1⟩ := hr.iterAt hit hp
     have gi : (getObj B).run P w = .ok (.mapIter M since seen.toArray last) w := by simp [getObj, Sem.run, i1]
     have gs : ∀ o', (setObj B o').run P w = .ok () (w.putObj B o') := fun o' => setObj_ok o' i1 (fun _ _ _ q => by cases q)
     have over : VR ρ (.tup [.bool false]) (.tuple #[.bool false]) := by simp only [VR]; exact ⟨[.bool false], by simp [VRs, VR], rfl⟩
     split at e
     ·cases e
      have hM := hM0 rfl
      subst hM
      exact ⟨.tuple #[.bool false], w, by simp [Instr.next, gi], Good.refl hr wf, over⟩
     ·rename_i mi
      obtain ⟨C, K, hmi, rfl⟩ := hM1 _ rfl
      split at e
      ·rename_i es clock hm
       obtain ⟨ES, m1, m2⟩ := hr.mapAt hm hmi
       have g : (getObj C).run P w = .ok (.map ES clock) w := Go.MapKept.run_getObj_map m1
       split at e
       ·cases e
        have hES : ES = #[] := by
         have := m2.1; simp at this; exact Array.size_eq_zero_iff.1 this.symm
        subst hES
        refine ⟨.tuple #[.bool false], w, ?_, Good.refl hr wf, over⟩
        simp [Instr.next, gi, g, Question.forced]
       ·rename_i en rest
        split at e
        ·cases e
        ·have hE : ∃ E, ES = #[E] := by
          have := m2.1
          simp at this
          exact ⟨ES[0], by
           apply Array.ext
           ·simp [← this]
           ·intro i a b
            have : i = 0 := by simp at b; omega
            subst this; simp⟩
         obtain ⟨E, rfl⟩ := hE
         obtain ⟨q1, q2, q3⟩ := m2.2 0 en E rfl rfl
         obtain ⟨ek, ev, eb⟩ := en
         simp only at q1 q2 q3
         subst q3
         split at e
         ·split at e
          ·rename_i hlt
           have hlt : E.born + 1 ≤ since := bleT hlt
           cases e
           refine ⟨.tuple #[.bool true, E.key, E.val], w.putObj B (.mapIter (some C) since #[E.born] clock), ?_, ?_, ?_⟩
           ·have h1 : E.born < since := by omega
            have h2 : ¬ since ≤ E.born := by omega
            simp [Instr.next, gi, g, Question.forced, h1, h2, gs, List.filter_cons]
           ·exact Good.putBlock hr wf hp _ _ _ hit rfl (by simp) rfl ⟨some C, ⟨C, K, hmi, rfl⟩, putObj_at _ (hr.lt _ _ _ hp)⟩
           ·simp only [VR]; exact ⟨[.bool true, E.key, E.val], by simp [VRs, VR]; exact ⟨q1, q2⟩, rfl⟩
          ·cases e
         ·rename_i s more
          split at e
          ·cases e
          ·split at e
           ·cases e
           ·rename_i hs
            have hs := beqT hs
            split at e
            ·rename_i hl
             have hl : E.born + 1 ≤ last := bleT hl
             cases e
             refine ⟨.tuple #[.bool false], w, ?_, Good.refl hr wf, over⟩
             have h1 : ¬ last ≤ E.born := by omega
             have h3 : E.born < last := by omega
             subst hs
             simp [Instr.next, gi, g, Question.forced, h1, h3, List.filter_cons]
            ·cases e
      ·cases e
    ·cases e
 ·cases e
theorem entry_ok {P : Program} {ρ : Map} {h : Heap} {w : World} (hr : HR ρ h w) {x v : AV} {X : Value} (e : oEntry h x = some v) (hx : VR ρ x X) :
  ∃ z, (Instr.entry X).run P w = .ok z w ∧ VR ρ v z := by
 unfold oEntry at e
 split at e
 ·rename_i id off
  simp only [VR] at hx
  obtain ⟨B, N, hp, rfl⟩ := hx
  split at e
  ·cases e
  ·rename_i h0
   obtain rfl : off = 0 := beqT h0
   split at e
   ·rename_i m since seen last hit
    obtain ⟨M, hM0, hM1, i1⟩ := hr.iterAt hit hp
    have gi : (getObj B).run P w = .ok (.mapIter M since seen.toArray last) w := by simp [getObj, Sem.run, i1]
    split at e
    ·cases e
    ·rename_i mi
     obtain ⟨C, K, hmi, rfl⟩ := hM1 _ rfl
     split at e
     ·rename_i es clock hm
      obtain ⟨ES, m1, m2⟩ := hr.mapAt hm hmi
      have g : (getObj C).run P w = .ok (.map ES clock) w := Go.MapKept.run_getObj_map m1
      split at e
      ·cases e
      ·rename_i hc
       have hc := beqT hc
       subst hc
       split at e
       ·rename_i s
        split at e
        ·rename_i i hi
         split at e
         ·rename_i k' v' b' hn
          cases e
          rw [nth_eq] at hn
          obtain ⟨j, p, E, h1, h2, h3, _, h5⟩ := stamp_ok es ES.toList 0 i m2 hi
          obtain rfl : i = j := by omega
          rw [h2] at hn; cases hn
          obtain ⟨q1, q2, q3⟩ := m2.2 i _ _ h2 h3
          have h5' : ES.find? (fun e => e.born == s) = some E := by rw [← Array.find?_toList]; exact h5
          refine ⟨.tuple #[E.key, E.val], ?_, by simp only [VR]; exact ⟨[E.key, E.val], by simp [VRs]; exact ⟨q1, q2⟩, rfl⟩⟩
          simp [Instr.entry, gi, g, h5']
         ·cases e
        ·cases e
       ·cases e
     ·cases e
   ·cases e
 ·cases e
section
variable {c : Ctx} (k : CtxOk c)
include k
theorem range_ok {ρ : Map} {h h' : Heap} {w : World} (hr : HR ρ h w) (wf : WF h) (fr : ρ h.nxt = none) {t : TypeId} {x v : AV} {X : Value} (e : oRange c h t x = some (v, h')) (hx : VR ρ x X) :
  ∃ z w' ρ', (Instr.range t X).run c.P w = .ok z w' ∧ Good ρ h w ρ' h' w' ∧ VR ρ' v z := by
 unfold oRange at e
 split at e
 ·rename_i d hd
  have hu := under_eq k hd
  split at e
  ·split at e
   ·cases e
    simp only [VR] at hx; subst hx
    exact ⟨.pointer (some ⟨w.heap.size, 0, none⟩), _, _, by simp [Instr.range, run_underlying hu], iter_alloc hr wf fr none none 0 0 (fun _ => rfl) (fun _ q => by cases q), by simp only [VR]; exact ⟨_, _, upd_same _ _ _, rfl⟩⟩
   ·rename_i id
    simp only [VR] at hx
    obtain ⟨B, N, hp, rfl⟩ := hx
    split at e
    ·rename_i es clock hm
     cases e
     obtain ⟨ES, m1, m2⟩ := hr.mapAt hm hp
     have g : (getObj B).run c.P w = .ok (.map ES clock) w := Go.MapKept.run_getObj_map m1
     exact ⟨.pointer (some ⟨w.heap.size, 0, none⟩), _, _, by simp [Instr.range, run_underlying hu, g], iter_alloc hr wf fr (some id) (some B) clock clock (fun q => by cases q) (fun _ q => by cases q; exact ⟨B, N, hp, rfl⟩), by simp only [VR]; exact ⟨_, _, upd_same _ _ _, rfl⟩⟩
    ·cases e
   ·cases e
  ·cases e
 ·cases e
theorem delete_ok {ρ : Map} {h h' : Heap} {w : World} (hr : HR ρ h w) (wf : WF h) {t : TypeId} {x kk : AV} {X K : Value} (e : oDelete c h t x kk = some h') (hx : VR ρ x X) (hk : VR ρ kk K)
  (ts : Array TypeId) (ht : ts[0]? = some t) (ty : TypeId) (rest : List Value) :
  ∃ w', (Builtin.delete_ ts ty (X :: K :: rest).toArray).run c.P w = .ok (.tuple #[]) w' ∧ Good ρ h w ρ h' w' := by
 unfold oDelete at e
 split at e
 ·rename_i d hd
  have hu := under_eq k hd
  split at e
  ·rename_i kt el
   split at e
   ·cases e
   ·rename_i hok
    obtain ⟨dk, hdk, pk⟩ := okKey_ok k hok hk
    split at e
    ·cases e
     simp only [VR] at hx; subst hx
     exact ⟨w, by simp [Builtin.delete_, ht, run_underlying hu, run_checkKey hdk pk.isKey], Good.refl hr wf⟩
    ·rename_i id
     simp only [VR] at hx
     obtain ⟨B, N, hp, rfl⟩ := hx
     split at e
     ·rename_i es clock hm
      obtain ⟨ES, m1, m2⟩ := hr.mapAt hm hp
      have g : (getObj B).run c.P w = .ok (.map ES clock) w := Go.MapKept.run_getObj_map m1
      have gs : ∀ o', (setObj B o').run c.P w = .ok () (w.putObj B o') := fun o' => setObj_ok o' m1 (fun _ _ _ q => by cases q)
      split at e
      ·rename_i i u hf
       cases e
       rcases findKey_ok hdk pk w m2 hf with ⟨q, _⟩ | ⟨j, u', b', k', E, q1, h2, h3, h4, h5, q, hb⟩
       ·cases q
       ·cases q1
        refine ⟨_, ?_, putMap_ok hr wf hm hp (clock' := clock) (ES := ES.eraseIdxIfInBounds i) ?_⟩
        ·simp [Builtin.delete_, ht, run_underlying hu, g, run_checkKey hdk pk.isKey, h4, gs]
        ·rw [Array.toList_eraseIdxIfInBounds]; exact m2.erase i
      ·rename_i hf
       cases e
       rcases findKey_ok hdk pk w m2 hf with ⟨_, h2⟩ | ⟨j, u', b', k', E, q1, _⟩
       ·have hsame : w.putObj B (.map ES clock) = w := by
         have hlt := hr.lt _ _ _ hp
         unfold World.putObj
         have : w.heap.setIfInBounds B (.map ES clock) = w.heap := by
          apply Array.ext_getElem?
          intro j
          rw [Array.getElem?_setIfInBounds]
          by_cases hj : B = j
          ·subst hj; rw [if_pos rfl, if_pos hlt, m1]
          ·rw [if_neg hj]
         rw [this]
        refine ⟨w, ?_, Good.refl hr wf⟩
        simp [Builtin.delete_, ht, run_underlying hu, g, run_checkKey hdk pk.isKey, h2, gs, hsame]
       ·cases q1
      ·cases e
     ·cases e
    ·cases e
  ·cases e
 ·cases e
end
end Go.Px
end
section
namespace Go.Px
theorem u8s_ok (ρ : Map) (l : List Nat) : VRs ρ (l.map fun b => AV.int .u8 (.ofNat (b % 256))) ((l.map UInt8.ofNat).map fun b => Value.int .u8 (b.toNat : Int)) := by
  induction l with
  | nil => simp [VRs]
  | cons b l ih => simp only [List.map_cons, VRs]; exact ⟨_, _, by simp only [VR]; simp, ih, rfl⟩
theorem src_ok {P : Program} {ρ : Map} {h : Heap} {w : World} (hr : HR ρ h w) {x : AV} {X : Value} {z m : Nat} {cs : List AV} (hx : VR ρ x X) (e1 : srcLen x = some m) (e2 : srcCells h x z = some cs) :
    (∀ w', (Builtin.lenOf X).run P w' = .ok m w') ∧ ∃ news, VRs ρ cs news ∧ news.length = m * z ∧ ∀ w', w'.heap = w.heap → ∀ n, n ≤ m → (Builtin.firstCells z n X).run P w' = .ok (news.take (n * z)).toArray w' := by
  unfold srcLen at e1
  split at e1
  · cases e1; cases e2
    simp only [VR] at hx; subst hx
    exact ⟨fun w' => by simp [Builtin.lenOf], [], by simp [VRs], by simp, fun w' _ n hn => by simp [Builtin.firstCells]⟩
  · cases e1; cases e2
    simp only [VR] at hx
    obtain ⟨B, N, o, C, hp, rfl⟩ := hx
    refine ⟨fun w' => by simp [Builtin.lenOf], [], by simp [VRs], by simp, fun w' _ n hn => ?_⟩
    obtain rfl : n = 0 := by omega
    simp [Builtin.firstCells, loadCells, loadCellsFrom]
  · cases e1; cases e2
    obtain ⟨a, rfl⟩ := csl_slice hx
    refine ⟨fun w' => by simp [Builtin.lenOf], [], by simp [VRs], by simp, fun w' _ n hn => ?_⟩
    obtain rfl : n = 0 := by omega
    cases a <;> simp [Builtin.firstCells, loadCells, loadCellsFrom]
  · rename_i n z' lr
    cases e1
    unfold srcCells at e2
    simp only [] at e2
    split at e2
    · rename_i hz
      obtain rfl := beqT hz
      cases e2
      simp only [VR] at hx
      obtain ⟨hlen, ⟨rfl, hx⟩ | ⟨B, o, C, L, rfl, hC, l1, l3⟩⟩ := hx
      · have : cs = [] := List.length_eq_zero_iff.1 (by omega)
        subst this
        rcases hx with rfl | ⟨a, C, rfl⟩
        · exact ⟨fun w' => by simp [Builtin.lenOf], [], by simp [VRs], by simp, fun w' _ n hn => by
            obtain rfl : n = 0 := by omega
            simp [Builtin.firstCells]⟩
        · refine ⟨fun w' => by simp [Builtin.lenOf], [], by simp [VRs], by simp, fun w' _ n hn => ?_⟩
          obtain rfl : n = 0 := by omega
          simp [Builtin.firstCells, loadCells, loadCellsFrom]
      · have hlz : L.length = m * z := by rw [← l1.length]; exact hlen
        refine ⟨fun w' => by simp [Builtin.lenOf], L, l1.mono (Sub.low ρ), hlz, fun w' hw n hn => ?_⟩
        have hle : n * z ≤ m * z := Nat.mul_le_mul_right z hn
        refine run_firstCells_some (P := P) w' z n ⟨B, o, none⟩ m C (L.take (n * z)) (by rw [List.length_take, hlz]; omega) (fun j u hj => ?_)
        rw [List.getElem?_take] at hj
        split at hj
        · rw [add_off, show w'.cell? ⟨B, o + j, none⟩ = w.cell? ⟨B, o + j, none⟩ from by simp [World.cell?, hw]]
          exact hr.fz B _ u (l3 j u hj)
        · cases hj
    · cases e2
  · rename_i id n z'
    cases e1
    unfold srcCells at e2
    simp only [] at e2
    split at e2
    · rename_i hz
      obtain rfl := beqT hz
      split at e2
      · rename_i ty z2 n' l hg
        split at e2
        · rename_i hnn
          obtain rfl := beqT hnn
          split at e2
          case h_2 => cases e2
          rename_i hz2
          obtain rfl := beqT hz2
          cases e2
          simp only [VR] at hx
          obtain ⟨hv, ⟨rfl, a0, rfl⟩ | ⟨B, C, rfl, hC⟩⟩ := hx
          · obtain ⟨h0, _⟩ := hr.av _ _ _ _ _ hg
            have : cs = [] := List.length_eq_zero_iff.1 (by omega)
            subst this
            exact ⟨fun w' => by simp [Builtin.lenOf], [], by simp [VRs], by simp, fun w' _ n hn => by
              obtain rfl : n = 0 := by omega
              cases a0 <;> simp [Builtin.firstCells, loadCells, loadCellsFrom]⟩
          · obtain ⟨L, l1, l3⟩ := hr.arrCells hg hv
            have hlz : L.length = m * z := by rw [← l1.length]; exact (hr.av _ _ _ _ _ hg).1
            refine ⟨fun w' => by simp [Builtin.lenOf], L, l1.mono (Sub.low ρ), hlz, fun w' hw n hn => ?_⟩
            have hle : n * z ≤ m * z := Nat.mul_le_mul_right z hn
            refine run_firstCells_some (P := P) w' z n ⟨B, 0, none⟩ m C (L.take (n * z)) (by rw [List.length_take, hlz]; omega) (fun j u hj => ?_)
            rw [List.getElem?_take] at hj
            split at hj
            · rw [add_off, Nat.zero_add, show w'.cell? ⟨B, j, none⟩ = w.cell? ⟨B, j, none⟩ from by simp [World.cell?, hw]]
              exact l3 j u hj
            · cases hj
        · cases e2
      · cases e2
    · cases e2
  · rename_i l
    cases e1
    unfold srcCells at e2
    simp only [] at e2
    split at e2
    · rename_i hz
      obtain rfl := beqT hz
      cases e2
      simp only [VR] at hx; subst hx
      refine ⟨fun w' => by simp [Builtin.lenOf, bs_size], _, u8s_ok ρ l, by simp, fun w' _ n hn => ?_⟩
      simp only [Builtin.firstCells, Sem.run_pure]
      congr 1
      apply Array.ext'
      rw [Array.toList_map, ByteArray.data_extract, Array.toList_extract]
      simp [bs, List.extract_eq_take_drop, List.map_take]
    · cases e2
  · rename_i id off len cap z'
    cases e1
    unfold srcCells at e2
    simp only [] at e2
    split at e2
    · cases e2
    · rename_i hz
      obtain rfl := beqT hz
      split at e2
      · rename_i r hrow
        split at e2
        · rename_i hb
          cases e2
          have hb := bleT hb
          simp only [VR] at hx
          obtain ⟨B, N, C, hp, rfl, _⟩ := hx
          have ro := hr.rowAt hrow hp
          obtain ⟨L, l1, l2, l3⟩ := RowOk.reads ro (m * z) off hb
          refine ⟨fun w' => by simp [Builtin.lenOf], L, l1, l2, fun w' hw n hn => ?_⟩
          have hle : n * z ≤ m * z := Nat.mul_le_mul_right z hn
          refine run_firstCells_some (P := P) w' z n ⟨B, off, none⟩ m C (L.take (n * z)) (by rw [List.length_take, l2]; omega) (fun j u hj => ?_)
          rw [List.getElem?_take] at hj
          split at hj
          · rw [add_off, show w'.cell? ⟨B, off + j, none⟩ = w.cell? ⟨B, off + j, none⟩ from by simp [World.cell?, hw]]
            exact l3 j u hj
          · cases hj
        · cases e2
      · cases e2
  · cases e1
section
variable {P : Program} (w : World)
theorem append_room (ts : Array TypeId) (ty t t1 e : TypeId) (d1 : TypeDesc) (i : TypeInfo) (ht0 : ts[0]? = some t) (ht1 : ts[1]? = some t1) (hu1 : P.underlying t1 = some d1) (hni : ∀ k, d1 ≠ .int k)
    (ht : P.underlying t = some (.slice e)) (hi : P.info? e = some i) (base : Option Addr) (sLen sCap m : Nat) (X : Value) (rest news : List Value)
    (hl : (Builtin.lenOf X).run P w = .ok m w) (hn : (Builtin.firstCells i.size m X).run P w = .ok news.toArray w) (hroom : sLen + m ≤ sCap) {w' : World}
    (hst : (match base with | none => w' = w | some a => (storeCells (a.add (sLen * i.size)) news).run P w = .ok () w')) :
    (Builtin.append_ ts ty (.slice base sLen sCap :: X :: rest).toArray).run P w = .ok (.slice base (sLen + m) sCap) w' := by
  cases base with
  | none =>
    simp only at hst; subst hst
    simp [Builtin.append_, ht0, ht1, run_underlying ht, run_underlying hu1, sizeOf, typeInfo, hi]
    simp [hl, hroom, hn]
  | some a =>
    simp only at hst
    simp [Builtin.append_, ht0, ht1, run_underlying ht, run_underlying hu1, sizeOf, typeInfo, hi]
    simp [hl, hroom, hn, hst]
theorem append_grow (ts : Array TypeId) (ty t t1 e : TypeId) (d1 : TypeDesc) (i : TypeInfo) (z : Value) (ht0 : ts[0]? = some t) (ht1 : ts[1]? = some t1) (hu1 : P.underlying t1 = some d1) (hni : ∀ k, d1 ≠ .int k)
    (ht : P.underlying t = some (.slice e)) (hi : P.info? e = some i) (hz : i.zero = some z) (base : Option Addr) (sLen sCap m : Nat) (X : Value) (rest olds news : List Value)
    (hl : (Builtin.lenOf X).run P w = .ok m w) (hn : (Builtin.firstCells i.size m X).run P w.drew = .ok news.toArray w.drew) (ho : (Builtin.firstCells i.size sLen (.slice base sLen sCap)).run P w.drew = .ok olds.toArray w.drew)
    (hg : sCap < sLen + m) (h63 : sLen + m ≤ 1000000) (hb : i.bytes ≤ 1000) :
    (Builtin.append_ ts ty (.slice base sLen sCap :: X :: rest).toArray).run P w = .ok (.slice (some ⟨w.heap.size, 0, none⟩) (sLen + m) (grownCap w (sLen + m) sCap e))
      (w.drew.alloc (.cells (olds.toArray ++ news.toArray ++ Builtin.zeroCells z.cells (grownCap w (sLen + m) sCap e - (sLen + m))) e)) := by
  have hn1 : ¬ (sLen + m ≤ sCap) := by omega
  have h63' : ¬ (9223372036854775807 < ((sLen : Int) + (m : Int))) := by omega
  have hb2 : (sLen + m) * i.bytes ≤ 1000000 * 1000 := Nat.mul_le_mul h63 hb
  have h48' : ¬ (281474976710656 < Builtin.nextslicecap (sLen + m) sCap * i.bytes) := by
    have := growslice_fits hg (bytes := i.bytes) (by omega); omega
  simp [Builtin.append_, ht0, ht1, run_underlying ht, run_underlying hu1, sizeOf, typeInfo, hi]
  simp [hl, hn1, h63', h48', zeroValue, typeInfo, hi, hz, Question.forced, hn, ho, Go.newRow, grownCap]
  congr 2
  apply Array.ext'
  simp [List.append_assoc]
theorem wrap_small (m : Nat) (h : m ≤ 1000000) : IntKind.i64.wrap (m : Int) = m := by
  rw [← wr_eq]
  have h1 : um .i64 (Int.ofNat m) = m := by simp [um, pw]; omega
  have h2 : Nat.ble (pw .i64) (2 * m) = false := by
    cases e : Nat.ble (pw .i64) (2 * m)
    · rfl
    · have := bleT e; simp [pw] at this; omega
  show wr .i64 (Int.ofNat m) = _
  unfold wr
  rw [h1, h2]; rfl
theorem append_room0 (ts : Array TypeId) (ty t t1 e : TypeId) (k1 : IntKind) (i : TypeInfo) (z : Value) (ht0 : ts[0]? = some t) (ht1 : ts[1]? = some t1) (hu1 : P.underlying t1 = some (.int k1))
    (ht : P.underlying t = some (.slice e)) (hi : P.info? e = some i) (hz : i.zero = some z) (base : Option Addr) (sLen sCap m : Nat) (kx : IntKind) (rest : List Value)
    (hm0 : m * i.size ≠ 0) (hm : m ≤ 1000000) (hb : i.bytes ≤ 1000) (hroom : sLen + m ≤ sCap) {w' : World}
    (hst : (match base with | none => w' = w | some a => (storeCells (a.add (sLen * i.size)) (Builtin.zeroCells z.cells m).toList).run P w = .ok () w')) :
    (Builtin.append_ ts ty (.slice base sLen sCap :: .int kx (m : Int) :: rest).toArray).run P w = .ok (.slice base (sLen + m) sCap) w' := by
  have hb2 : m * i.bytes ≤ 1000000 * 1000 := Nat.mul_le_mul hm hb
  have hb3 : ¬ (281474976710656 < (m : Int) * (i.bytes : Int)) := by
    have : ((m * i.bytes : Nat) : Int) ≤ 1000000000 := by omega
    rw [Int.natCast_mul] at this; omega
  have hm1 : ¬ (m : Int) < 0 := by omega
  have hm2 : ¬ (m = 0 ∨ i.size = 0) := by rw [← Nat.mul_eq_zero]; exact hm0
  cases base with
  | none =>
    simp only at hst; subst hst
    simp [Builtin.append_, ht0, ht1, run_underlying ht, run_underlying hu1, sizeOf, typeInfo, zeroValue, hi, hz, asInt, asIntOf, wrap_small m hm, hb3, hm1, hroom, hm2]
  | some a =>
    simp only at hst
    simp [Builtin.append_, ht0, ht1, run_underlying ht, run_underlying hu1, sizeOf, typeInfo, zeroValue, hi, hz, asInt, asIntOf, wrap_small m hm, hb3, hm1, hroom, hm2, hst]
    exact fun q => absurd q hm0
theorem append_grow0 (ts : Array TypeId) (ty t t1 e : TypeId) (k1 : IntKind) (i : TypeInfo) (z : Value) (ht0 : ts[0]? = some t) (ht1 : ts[1]? = some t1) (hu1 : P.underlying t1 = some (.int k1))
    (ht : P.underlying t = some (.slice e)) (hi : P.info? e = some i) (hz : i.zero = some z) (base : Option Addr) (sLen sCap m : Nat) (kx : IntKind) (rest olds : List Value)
    (hm0 : m * i.size ≠ 0) (ho : (Builtin.firstCells i.size sLen (.slice base sLen sCap)).run P w.drew = .ok olds.toArray w.drew)
    (hg : sCap < sLen + m) (h63 : sLen + m ≤ 1000000) (hb : i.bytes ≤ 1000) :
    (Builtin.append_ ts ty (.slice base sLen sCap :: .int kx (m : Int) :: rest).toArray).run P w = .ok (.slice (some ⟨w.heap.size, 0, none⟩) (sLen + m) (grownCap w (sLen + m) sCap e))
      (w.drew.alloc (.cells (olds.toArray ++ Builtin.zeroCells z.cells m ++ Builtin.zeroCells z.cells (grownCap w (sLen + m) sCap e - (sLen + m))) e)) := by
  have hm : m ≤ 1000000 := by omega
  have hn1 : ¬ (sLen + m ≤ sCap) := by omega
  have h63' : ¬ (9223372036854775807 < ((sLen : Int) + (m : Int))) := by omega
  have hb2 : (sLen + m) * i.bytes ≤ 1000000 * 1000 := Nat.mul_le_mul h63 hb
  have hb4 : m * i.bytes ≤ 1000000 * 1000 := Nat.mul_le_mul hm hb
  have hb3 : ¬ (281474976710656 < (m : Int) * (i.bytes : Int)) := by
    have : ((m * i.bytes : Nat) : Int) ≤ 1000000000 := by omega
    rw [Int.natCast_mul] at this; omega
  have hm1 : ¬ (m : Int) < 0 := by omega
  have hm2 : ¬ (m = 0 ∨ i.size = 0) := by rw [← Nat.mul_eq_zero]; exact hm0
  have h48' : ¬ (281474976710656 < Builtin.nextslicecap (sLen + m) sCap * i.bytes) := by
    have := growslice_fits hg (bytes := i.bytes) (by omega); omega
  simp [Builtin.append_, ht0, ht1, run_underlying ht, run_underlying hu1, sizeOf, typeInfo, zeroValue, hi, hz, asInt, asIntOf, wrap_small m hm, hb3, hm1, hn1, h63', h48', hm2, Question.forced, ho, Go.newRow, grownCap]
  exact fun q => absurd q hm0
end
structure Src (P : Program) (w : World) (ts : Array TypeId) (i : TypeInfo) (Z : Value) (X : Value) (m : Nat) (news : List Value) : Prop where
  how : (∃ t1 d1, ts[1]? = some t1 ∧ P.underlying t1 = some d1 ∧ (∀ k, d1 ≠ .int k) ∧ (∀ w', (Builtin.lenOf X).run P w' = .ok m w') ∧ ∀ w', w'.heap = w.heap → (Builtin.firstCells i.size m X).run P w' = .ok news.toArray w') ∨
        (∃ t1 k1 kx, ts[1]? = some t1 ∧ P.underlying t1 = some (.int k1) ∧ X = .int kx (m : Int) ∧ m ≤ 1000000 ∧ news = (Builtin.zeroCells Z.cells m).toList)
  len : news.length = m * i.size
  info : i.zero = some Z
  zsize : Z.cells.size = i.size
  size : i.size ≠ 0
  bytes : i.bytes ≤ 1000
theorem Src.room {P : Program} {w : World} {ts : Array TypeId} {i : TypeInfo} {Z X : Value} {m : Nat} {news : List Value} (s : Src P w ts i Z X m news) {ty t e : TypeId} (ht0 : ts[0]? = some t) (ht : P.underlying t = some (.slice e)) (hi : P.info? e = some i)
    (base : Option Addr) (sLen sCap : Nat) (rest : List Value) (hm0 : m ≠ 0) (hroom : sLen + m ≤ sCap) {w' : World}
    (hst : (match base with | none => w' = w | some a => (storeCells (a.add (sLen * i.size)) news).run P w = .ok () w')) :
    (Builtin.append_ ts ty (.slice base sLen sCap :: X :: rest).toArray).run P w = .ok (.slice base (sLen + m) sCap) w' := by
  rcases s.how with ⟨t1, d1, h1, h2, h3, h4, h5⟩ | ⟨t1, k1, kx, h1, h2, rfl, hm, rfl⟩
  · exact append_room w ts ty t t1 e d1 i ht0 h1 h2 h3 ht hi base sLen sCap m X rest news (h4 w) (h5 w rfl) hroom hst
  · exact append_room0 w ts ty t t1 e k1 i Z ht0 h1 h2 ht hi s.info base sLen sCap m kx rest (Nat.mul_ne_zero hm0 s.size) hm s.bytes hroom hst
theorem Src.grow {P : Program} {w : World} {ts : Array TypeId} {i : TypeInfo} {Z X : Value} {m : Nat} {news : List Value} (s : Src P w ts i Z X m news) {ty t e : TypeId} (ht0 : ts[0]? = some t) (ht : P.underlying t = some (.slice e)) (hi : P.info? e = some i)
    (base : Option Addr) (sLen sCap : Nat) (rest olds : List Value) (hm0 : m ≠ 0) (ho : (Builtin.firstCells i.size sLen (.slice base sLen sCap)).run P w.drew = .ok olds.toArray w.drew)
    (hg : sCap < sLen + m) (h63 : sLen + m ≤ 1000000) :
    (Builtin.append_ ts ty (.slice base sLen sCap :: X :: rest).toArray).run P w = .ok (.slice (some ⟨w.heap.size, 0, none⟩) (sLen + m) (grownCap w (sLen + m) sCap e))
      (w.drew.alloc (.cells (olds.toArray ++ news.toArray ++ Builtin.zeroCells Z.cells (grownCap w (sLen + m) sCap e - (sLen + m))) e)) := by
  rcases s.how with ⟨t1, d1, h1, h2, h3, h4, h5⟩ | ⟨t1, k1, kx, h1, h2, rfl, hm, rfl⟩
  · exact append_grow w ts ty t t1 e d1 i Z ht0 h1 h2 h3 ht hi s.info base sLen sCap m X rest olds news (h4 w) (h5 _ rfl) ho hg h63 s.bytes
  · have := append_grow0 w ts ty t t1 e k1 i Z ht0 h1 h2 ht hi s.info base sLen sCap m kx rest olds (Nat.mul_ne_zero hm0 s.size) ho hg h63 s.bytes
    simpa using this
end Go.Px
end
section
namespace Go.Px
theorem Src.none {P : Program} {w : World} {ts : Array TypeId} {i : TypeInfo} {Z X : Value} {news : List Value} (s : Src P w ts i Z X 0 news) {ty t e : TypeId} (ht0 : ts[0]? = some t) (ht : P.underlying t = some (.slice e)) (hi : P.info? e = some i)
  (base : Option Addr) (sLen sCap : Nat) (hle : sLen ≤ sCap) (rest : List Value) : (Builtin.append_ ts ty (.slice base sLen sCap :: X :: rest).toArray).run P w = .ok (.slice base sLen sCap) w := by
 have hn : news = [] := List.length_eq_zero_iff.1 (by have := s.len; simpa using this)
 subst hn
 rcases s.how with ⟨t1, d1, h1, h2, h3, h4, h5⟩ | ⟨t1, k1, kx, h1, h2, rfl, _, _⟩
 ·exact append_room w ts ty t t1 e d1 i ht0 h1 h2 h3 ht hi base sLen sCap 0 X rest [] (h4 w) (h5 w rfl) (by omega) (w' := w) (by cases base <;> simp [storeCells])
 ·have hw := wrap_small 0 (by omega)
  simp only [Int.natCast_zero] at hw
  cases base <;> simp [Builtin.append_, ht0, h1, run_underlying ht, run_underlying h2, sizeOf, typeInfo, hi, asInt, asIntOf, hw, hle, storeCells]
theorem newRow_ok2 {ρ : Map} {h : Heap} {w w0 : World} (hr : HR ρ h w) (wf : WF h) (fr : ρ h.nxt = none) (h0 : w0.heap = w.heap) (hs : Same w w0) (t : TypeId) (l : List AV) (L : List Value) (hl : VRs ρ l L) (C : Array Value) (fz : Nat × Nat)
  (hc : ∀ j, j < L.length → C[j]? = L[j]?) (hn : l.length ≤ C.size) (hfz : fz = (0, 0) ∨ fz.1 = C.size) :
  Good ρ h w (upd ρ h.nxt (w.heap.size, C.size)) (newRow h t l.length .leaf l) (w0.alloc (.cells C t fz)) := by
 have g0 : Good ρ h w ρ h w0 := Good.draw (Good.refl hr wf) h0 hs
 have hr1 : HR ρ h w0 := hr.same h0
 have g1 : Good ρ h w0 (upd ρ h.nxt (w0.heap.size, C.size)) (newRow h t l.length .leaf l) (w0.alloc (.cells C t fz)) := by
  refine Good.newBlock hr1 wf fr (.row ⟨t, l.length, .leaf, l, none⟩) _ C.size (fun r e => by cases e; rfl) ?_
  refine ⟨?_, hn, fun j hj => ?_, fun j hj => ?_⟩
  ·unfold World.shape?; rw [alloc_at]
  ·have : (w0.alloc (.cells C t fz)).frozen? ⟨w0.heap.size, j, none⟩ = (decide (fz.1 ≤ j) && decide (j < fz.2)) := World.frozen?_alloc_mark w0 C t fz.1 fz.2 j
   rw [this]
   rcases hfz with rfl | q
   ·simp
   ·have : ¬ fz.1 ≤ j := by omega
    simp [this]
  ·have hj' : j < l.length := hj
   have hll := hl.length
   obtain ⟨v, a, b⟩ := hl.at (List.getElem?_eq_getElem hj')
   refine ⟨v, ?_, (?_ : VR ρ _ v).mono (upd_sub fr)⟩
   ·rw [World.cell?_alloc_mark, hc j (by omega)]; exact a
   ·rw [Row.get_new, Nat.mod_eq_of_lt hj', List.getElem?_eq_getElem hj']; exact b
 rw [h0] at g1
 exact g0.trans g1
theorem cell_some {w : World} {B N j : Nat} {t : TypeId} (h : w.shape? B = some (t, N)) (hj : j < N) : (w.cell? ⟨B, j, none⟩).isSome = true := by
 unfold World.shape? at h
 unfold World.cell?
 cases hb : w.heap[B]? with
 | none => rw [hb] at h; cases h
 | some o =>
  rw [hb] at h
  cases o <;> simp at h ⊢
  omega
theorem zeroCells_size (z : Array Value) (n : Nat) : (Builtin.zeroCells z n).size = n * z.size := by simp [Builtin.zeroCells]
theorem growNew_ok {P : Program} {ρ : Map} {h h' : Heap} {w : World} (hr : HR ρ h w) (wf : WF h) (fr : Free ρ h.nxt h'.nxt) {ts : Array TypeId} {i : TypeInfo} {Z X : Value} {m : Nat} {news : List Value} (s : Src P w ts i Z X m news)
  {ty t e : TypeId} (ht0 : ts[0]? = some t) (ht : P.underlying t = some (.slice e)) (hi : P.info? e = some i) (base : Option Addr) (sLen sCap : Nat) (rest olds : List Value) (hm0 : m ≠ 0)
  (ho : (Builtin.firstCells i.size sLen (.slice base sLen sCap)).run P w.drew = .ok olds.toArray w.drew) (hlo : olds.length = sLen * i.size) (hg : sCap < sLen + m) {ol cs : List AV} (hol : VRs ρ ol olds) (hcs : VRs ρ cs news) {v : AV}
  (e1 : growNew h e i.size (sLen + m) (ol ++ cs) = some (v, h')) :
  ∃ z w' ρ', (Builtin.append_ ts ty (.slice base sLen sCap :: X :: rest).toArray).run P w = .ok z w' ∧ Good ρ h w ρ' h' w' ∧ VR ρ' v z := by
 unfold growNew at e1
 split at e1
 ·rename_i hle
  have hle := bleT hle
  cases e1
  have hrun := s.grow (ty := ty) ht0 ht hi base sLen sCap rest olds hm0 ho hg hle
  have hge := grownCap_ge w (sLen + m) sCap e
  generalize grownCap w (sLen + m) sCap e = G at hrun hge
  have hll := (hol.append hcs).length
  have hl2 : (olds ++ news).length = (sLen + m) * i.size := by rw [List.length_append, hlo, s.len, Nat.add_mul]
  have hl3 : (ol ++ cs).length = (sLen + m) * i.size := by rw [hll, hl2]
  have hsz : (olds.toArray ++ news.toArray ++ Builtin.zeroCells Z.cells (G - (sLen + m))).size = G * i.size := by
   rw [Array.size_append, zeroCells_size, s.zsize]
   have : (olds.toArray ++ news.toArray).size = (sLen + m) * i.size := by rw [← hl2]; simp
   rw [this, ← Nat.add_mul]; congr 1; omega
  have hG : (sLen + m) * i.size ≤ G * i.size := Nat.mul_le_mul_right _ hge
  have g := newRow_ok2 hr wf (fr _ (Nat.le_refl _) (Nat.lt_succ_self _)) (w0 := w.drew) rfl ⟨rfl, rfl, rfl, Nat.le_refl _⟩ e (ol ++ cs) (olds ++ news) (hol.append hcs)
   (olds.toArray ++ news.toArray ++ Builtin.zeroCells Z.cells (G - (sLen + m))) (0, 0) (fun j hj => by
    rw [Array.getElem?_append_left (by simpa using hj)]; simp) (by omega) (.inl rfl)
  rw [hl3] at g
  refine ⟨_, _, _, hrun, g, ?_⟩
  simp only [VR]
  exact ⟨_, _, G, upd_same _ _ _, rfl, hge, (fun _ q => by cases q), (fun _ => by rw [hsz, Nat.zero_add])⟩
 ·cases e1
theorem tipRoot_ok {ρ : Map} {h : Heap} {id : Nat} {r : Row} {q : Nat} (e : tipRoot h id r = some q) (hg : h.get id = .row r) : ((r.root = none ∧ q = h.nxt) ∨ (r.root = some q ∧ h.tip q = some id)) ∧ h.ok id := by
 unfold tipRoot at e
 split at e
 ·rename_i h1; cases e
  exact ⟨.inl ⟨h1, rfl⟩, (Heap.ok_row hg).2 (by rw [Heap.row_of hg, h1])⟩
 ·rename_i q' h1
  split at e
  ·rename_i t ht
   split at e
   ·rename_i hb
    cases e
    obtain rfl := beqT hb
    exact ⟨.inr ⟨h1, ht⟩, (Heap.ok_row hg).2 (by rw [Heap.row_of hg, h1]; simp only [ht])⟩
   ·cases e
  ·cases e
theorem tipRow_get (r : Row) (n : Nat) (cs : List AV) (q : Nat) (j : Nat) : Row.get ⟨r.t, n, T.put none (cs.map some) r.c r.n, r.pat, some q⟩ j = if r.n ≤ j ∧ j < r.n + cs.length then (cs[j - r.n]?).getD .bad else r.get j := by
 rw [← write_c, putC_get]
 rfl
theorem tipGrow_ok {P : Program} {ρ : Map} {h h' : Heap} {w : World} (hr : HR ρ h w) (wf : WF h) (fr : Free ρ h.nxt h'.nxt) {ts : Array TypeId} {i : TypeInfo} {Z X : Value} {m : Nat} {news : List Value} (s : Src P w ts i Z X m news)
  {ty t e : TypeId} (ht0 : ts[0]? = some t) (ht : P.underlying t = some (.slice e)) (hi : P.info? e = some i) (hm0 : m ≠ 0) (rest : List Value) {cs : List AV} (hcs : VRs ρ cs news) {id off len B N C : Nat} (hp : ρ id = some (B, N)) (hle : len ≤ C)
  (hN : off + C * i.size = N) {r : Row} (hrow : h.get id = .row r) {v : AV} (e1 : tipGrow h e id off len i.size m cs r = some (v, h')) :
  ∃ z w' ρ', (Builtin.append_ ts ty (.slice (some ⟨B, off, none⟩) len C :: X :: rest).toArray).run P w = .ok z w' ∧ Good ρ h w ρ' h' w' ∧ VR ρ' v z := by
 unfold tipGrow at e1
 split at e1
 ·cases e1
 ·rename_i hrn
  have hrn := beqT hrn
  split at e1
  ·cases e1
  ·rename_i hsm
   have hsm := bleT hsm
   split at e1
   ·cases e1
   ·rename_i ho
    split at e1
    ·cases e1
    ·rename_i q hq
     obtain ⟨hq1, hok⟩ := tipRoot_ok (ρ := ρ) hq hrow
     split at e1
     ·rename_i h0
      obtain rfl : off = 0 := beqT h0
      have hte : r.t = e := by
       split at e1
       ·rename_i q; exact beqT q
       ·cases e1
      rw [show Nat.beq r.t e = true from hte ▸ Nat.beq_refl _] at e1
      have e2 : v = .sl h.nxt 0 (len + m) none i.size ∧ h' = Px.growTip h id r ⟨r.t, r.n + m * i.size, T.put none (cs.map some) r.c r.n, r.pat, some q⟩ q := by
       simp only [Option.some.injEq, Prod.mk.injEq] at e1; exact ⟨e1.1.symm, e1.2.symm⟩
      obtain ⟨rfl, rfl⟩ := e2
      have fr0 : ρ h.nxt = none := fr _ (Nat.le_refl _) (Nat.lt_succ_self _)
      have ro := hr.ok id B N hp hok
      rw [hrow] at ro
      have hcl := hcs.length
      have hnl := s.len
      have hmul : (len + m) * i.size = len * i.size + m * i.size := Nat.add_mul _ _ _
      simp only [Nat.zero_add] at hrn hN
      by_cases hroom : len + m ≤ C
      ·have hNle : (len + m) * i.size ≤ N := by rw [← hN]; exact Nat.mul_le_mul_right _ hroom
       have c1 : ∀ j, j < news.length → (w.cell? ⟨B, r.n + j, none⟩).isSome = true := fun j hj => cell_some ro.1 (by omega)
       have c2 : ∀ j, j < news.length → w.frozen? ⟨B, r.n + j, none⟩ = false := fun j hj => ro.2.2.1 _ (by omega)
       have hst := run_storeCells_cells (P := P) B r.n news 0 w (by simpa using c1) (by simpa using c2) (ones_ok ho hcs)
       have hrun := s.room (ty := ty) ht0 ht hi (some ⟨B, 0, none⟩) len C rest hm0 hroom (w' := w.setCells B r.n news) (by
        show (storeCells ((⟨B, 0, none⟩ : Addr).add (len * i.size)) news).run P w = _
        rw [add_off, Nat.zero_add, ← hrn]; simpa using hst)
       have g := Good.growTip hr wf fr0 hp hrow hq1 (r2 := ⟨r.t, r.n + m * i.size, T.put none (cs.map some) r.c r.n, r.pat, some q⟩) rfl (Nat.le_add_right _ _) B N
        (w' := w.setCells B r.n news) ?_ (.inl ⟨rfl, rfl, size_setCells _ _ _ _, fun D hD => heap_setCells_ne B D hD news r.n w, shape_setCells _ _ _ _ _, fun j => World.frozen?_setCells _ _ _ _ _,
         fun j hj => World.cell?_setCells_out B news r.n w ⟨B, j, none⟩ (fun _ _ => .inl hj)⟩) (same_setCells _ _ _ _)
       ·refine ⟨_, _, _, hrun, g, ?_⟩
        simp only [VR]
        exact ⟨B, N, C, upd_same _ _ _, rfl, hroom, (fun _ q => by cases q), (fun _ => by rw [Nat.zero_add]; exact hN)⟩
       ·refine ⟨by rw [shape_setCells]; exact ro.1, by show r.n + m * i.size ≤ N; omega, fun j hj => by rw [World.frozen?_setCells]; exact ro.2.2.1 j hj, fun j hj => ?_⟩
        have hj' : j < r.n + m * i.size := hj
        rw [tipRow_get]
        by_cases hjr : j < r.n
        ·rw [if_neg (by omega)]
         obtain ⟨x, x1, x2⟩ := ro.2.2.2 j hjr
         refine ⟨x, ?_, x2.mono (upd_sub fr0)⟩
         rw [World.cell?_setCells_out B news r.n w ⟨B, j, none⟩ (fun _ _ => .inl hjr)]; exact x1
        ·rw [if_pos (by omega)]
         have hk : j - r.n < cs.length := by omega
         obtain ⟨x, x1, x2⟩ := hcs.at (List.getElem?_eq_getElem hk)
         rw [List.getElem?_eq_getElem hk]
         have := World.cell?_setCells_in B news r.n w c1 (j - r.n) (by omega)
         rw [show r.n + (j - r.n) = j by omega] at this
         refine ⟨_, this, VR.mono (upd_sub fr0) _ ?_⟩
         have x3 : news[j - r.n] = x := by
          have := List.getElem?_eq_getElem (l := news) (i := j - r.n) (by omega)
          rw [x1] at this; exact (Option.some.inj this).symm
         rw [x3]; exact x2
      ·have hg : C < len + m := by omega
       obtain ⟨L, l1, l2, l3⟩ := RowOk.reads ro (len * i.size) 0 (by omega)
       simp only [Nat.zero_add] at l3
       have hof := run_firstCells_some (P := P) w.drew i.size len ⟨B, 0, none⟩ len C L l2 (fun j u hj => by rw [add_off, Nat.zero_add]; exact l3 j u hj)
       have hrun := s.grow (ty := ty) ht0 ht hi (some ⟨B, 0, none⟩) len C rest L hm0 hof hg hsm
       have hge := grownCap_ge w (len + m) C e
       generalize grownCap w (len + m) C e = G at hrun hge
       have hsz : (L.toArray ++ news.toArray ++ Builtin.zeroCells Z.cells (G - (len + m))).size = G * i.size := by
        rw [Array.size_append, zeroCells_size, s.zsize]
        have : (L.toArray ++ news.toArray).size = (len + m) * i.size := by simp [l2, hnl, hmul]
        rw [this, ← Nat.add_mul]; congr 1; omega
       have hG : (len + m) * i.size ≤ G * i.size := Nat.mul_le_mul_right _ hge
       have hall : ∀ j, j < (L ++ news).length → (L.toArray ++ news.toArray ++ Builtin.zeroCells Z.cells (G - (len + m)))[j]? = (L ++ news)[j]? := fun j hj => by
        rw [Array.getElem?_append_left (by simpa using hj)]; simp
       generalize L.toArray ++ news.toArray ++ Builtin.zeroCells Z.cells (G - (len + m)) = CC at hrun hsz hall
       have g := Good.growTip hr wf fr0 hp hrow hq1 (r2 := ⟨r.t, r.n + m * i.size, T.put none (cs.map some) r.c r.n, r.pat, some q⟩) rfl (Nat.le_add_right _ _) w.heap.size (G * i.size)
        (w' := w.drew.alloc (.cells CC e)) ?_ (.inr ⟨rfl, by simp, fun D hD => alloc_block w.drew _ hD⟩) ⟨rfl, rfl, rfl, by simp⟩
       ·refine ⟨_, _, _, hrun, g, ?_⟩
        simp only [VR]
        exact ⟨_, _, G, upd_same _ _ _, rfl, hge, (fun _ q => by cases q), (fun _ => by rw [Nat.zero_add])⟩
       ·refine ⟨?_, by show r.n + m * i.size ≤ G * i.size; omega, fun j hj => World.frozen?_alloc_at (w := w.drew) CC e _ j rfl, fun j hj => ?_⟩
        ·show (w.drew.alloc (.cells CC e)).shape? w.drew.heap.size = _
         unfold World.shape?; rw [alloc_at]; simp only [hsz, hte]
        ·have hj' : j < r.n + m * i.size := hj
         rw [tipRow_get]
         have hl4 : (L ++ news).length = len * i.size + m * i.size := by simp [l2, hnl]
         have hcell : (w.drew.alloc (.cells CC e)).cell? ⟨w.heap.size, j, none⟩ = (L ++ news)[j]? := by
          rw [show (w.drew.alloc (.cells CC e)).cell? ⟨w.heap.size, j, none⟩ = CC[j]? from World.cell?_alloc_at (w := w.drew) CC e _ j rfl]; exact hall j (by omega)
         rw [hcell]
         by_cases hjr : j < r.n
         ·rw [if_neg (by omega)]
          obtain ⟨x, x1, x2⟩ := ro.2.2.2 j hjr
          refine ⟨x, ?_, x2.mono (upd_sub fr0)⟩
          rw [List.getElem?_append_left (by omega)]
          have hL := List.getElem?_eq_getElem (l := L) (i := j) (by omega)
          have := l3 j _ hL
          rw [x1] at this; cases this; exact hL
         ·rw [if_pos (by omega)]
          have hk : j - r.n < cs.length := by omega
          obtain ⟨x, x1, x2⟩ := hcs.at (List.getElem?_eq_getElem hk)
          rw [List.getElem?_eq_getElem hk]
          refine ⟨x, ?_, x2.mono (upd_sub fr0)⟩
          rw [List.getElem?_append_right (by omega), l2, ← hrn]; exact x1
     ·cases e1
theorem cutRow_ok {ρ : Map} {h h2 : Heap} {w : World} (hr : HR ρ h w) (wf : WF h) {id k B N : Nat} (hp : ρ id = some (B, N)) {r : Row} (e : cutRow h id k = some (r, h2)) :
  Good ρ h w ρ h2 w ∧ h2.get id = .row r ∧ h2.nxt = h.nxt := by
 unfold cutRow at e
 split at e
 ·cases e
 ·rename_i h1 hw
  obtain ⟨g, _, _, _⟩ := wCells_ok hr wf hw hp (L := []) (by simp [VRs])
  have hw0 : w.setCells B 0 [] = w := rfl
  rw [hw0] at g
  have hn1 : h1.nxt = h.nxt := by
   unfold wCells at hw
   split at hw
   ·rename_i r0 h0 hm
    obtain ⟨_, _, _, _, q, _⟩ := Heap.mine_spec hm
    split at hw
    ·split at hw
     ·cases hw; exact q
     ·cases hw
    ·cases hw
   ·cases hw
  split at e
  ·rename_i r1 hg1
   split at e
   ·rename_i hroot
    split at e
    ·rename_i hk
     have hk := bleT hk
     cases e
     have hm : h1.mine id = some (r1, h1) := by
      unfold Heap.mine; rw [hg1]; simp only [hroot]
     have hok : h1.ok id := (Heap.ok_row hg1).2 (by rw [Heap.row_of hg1, hroot])
     have ro := g.hr.ok id B N hp hok
     rw [hg1] at ro
     have g2 := Good.writeRow0 g.hr g.wf hp hm (r' := ⟨r1.t, k, r1.c, r1.pat, none⟩) rfl
      (show RowOk ρ ⟨r1.t, k, r1.c, r1.pat, none⟩ B N w from ⟨ro.1, Nat.le_trans hk ro.2.1, ro.2.2.1, fun j hj => ro.2.2.2 j (Nat.lt_of_lt_of_le hj hk)⟩)
      (fun _ _ => rfl) (Same.refl w) rfl
     exact ⟨g.trans g2, by rw [Heap.get_put, if_pos rfl], hn1⟩
    ·cases e
   ·cases e
  ·cases e
theorem appCells_ok {P : Program} {ρ : Map} {h h' : Heap} {w : World} (hr : HR ρ h w) (wf : WF h) (fr : Free ρ h.nxt h'.nxt) {ts : Array TypeId} {i : TypeInfo} {Z X S : Value} {m : Nat} {news : List Value} (s : Src P w ts i Z X m news)
  {ty t e : TypeId} (ht0 : ts[0]? = some t) (ht : P.underlying t = some (.slice e)) (hi : P.info? e = some i) (rest : List Value) {cs : List AV} (hcs : VRs ρ cs news) {a v : AV} (hs : VR ρ a S)
  (e1 : appCells h e i.size m cs a = some (v, h')) :
  ∃ z w' ρ', (Builtin.append_ ts ty (S :: X :: rest).toArray).run P w = .ok z w' ∧ Good ρ h w ρ' h' w' ∧ VR ρ' v z := by
 unfold appCells at e1
 split at e1
 ·simp only [VR] at hs; subst hs
  split at e1
  ·cases e1
   exact ⟨_, w, ρ, s.none ht0 ht hi none 0 0 (Nat.le_refl _) rest, Good.refl hr wf, by simp only [VR]⟩
  ·rename_i m
   exact growNew_ok hr wf fr s ht0 ht hi none 0 0 rest [] (by omega) (by simp [Builtin.firstCells]) (by simp) (by omega) (ol := []) (by simp [VRs]) hcs (by rw [Nat.zero_add]; exact e1)
 ·obtain ⟨a, rfl⟩ := csl_slice hs
  split at e1
  ·cases e1
   exact ⟨_, w, ρ, s.none ht0 ht hi a 0 0 (Nat.le_refl _) rest, Good.refl hr wf, hs⟩
  ·rename_i m
   exact growNew_ok hr wf fr s ht0 ht hi a 0 0 rest [] (by omega) (by cases a <;> simp [Builtin.firstCells, loadCells, loadCellsFrom]) (by simp) (by omega) (ol := []) (by simp [VRs]) hcs (by rw [Nat.zero_add]; exact e1)
 ·rename_i id off len cap z'
  split at e1
  ·cases e1
  ·rename_i hz
   obtain rfl := beqT hz
   simp only [VR] at hs
   obtain ⟨B, N, C, hp, rfl, hle, hk, hn⟩ := hs
   split at e1
   ·cases e1
    exact ⟨_, w, ρ, s.none ht0 ht hi _ len C hle rest, Good.refl hr wf, by simp only [VR]; exact ⟨B, N, C, hp, rfl, hle, hk, hn⟩⟩
   ·rename_i m
    have hm0 : m + 1 ≠ 0 := by omega
    have inplace : ∀ h1, wCells h id (off + len * i.size) cs = some h1 → len + (m + 1) ≤ C → h' = h1 → v = .sl id off (len + (m + 1)) cap i.size →
      ∃ z w' ρ', (Builtin.append_ ts ty (.slice (some ⟨B, off, none⟩) len C :: X :: rest).toArray).run P w = .ok z w' ∧ Good ρ h w ρ' h' w' ∧ VR ρ' v z := fun h1 hw hroom q1 q2 => by
     subst q1; subst q2
     obtain ⟨g, g1, g2, g3⟩ := wCells_ok hr wf hw hp hcs
     have hst := run_storeCells_cells (P := P) B (off + len * i.size) news 0 w (by simpa using g1) (by simpa using g2) g3
     refine ⟨_, _, _, s.room (ty := ty) ht0 ht hi (some ⟨B, off, none⟩) len C rest hm0 hroom (w' := w.setCells B (off + len * i.size) news) (by simpa [add_off] using hst), g, ?_⟩
     simp only [VR]
     exact ⟨B, N, C, hp, rfl, hroom, hk, hn⟩
    unfold appSl at e1
    split at e1
    ·rename_i kk
     obtain rfl := hk kk rfl
     split at e1
     ·rename_i hroom
      have hroom := bleT hroom
      split at e1
      ·rename_i h1 hw
       cases e1
       exact inplace _ hw hroom rfl rfl
      ·cases e1
     ·rename_i hnr
      have hnr : C < len + (m + 1) := by
       rcases Nat.lt_or_ge C (len + (m + 1)) with q | q
       ·exact q
       ·rw [Nat.ble_eq_true_of_le q] at hnr; cases hnr
      split at e1
      ·rename_i r hrow
       split at e1
       ·rename_i hb
        have hb := bleT hb
        obtain ⟨L, l1, l2, l3⟩ := RowOk.reads (hr.rowAt hrow hp) (len * i.size) off hb
        have ho := run_firstCells_some (P := P) w.drew i.size len ⟨B, off, none⟩ len C L l2 (fun j u hj => by rw [add_off]; exact l3 j u hj)
        exact growNew_ok hr wf fr s ht0 ht hi _ len C rest L hm0 ho l2 hnr l1 hcs e1
       ·cases e1
      ·cases e1
    ·split at e1
     ·rename_i r hrow
      split at e1
      ·rename_i hext
       have hext := bleT hext
       split at e1
       ·rename_i h1 hw
        cases e1
        refine inplace _ hw ?_ rfl rfl
        unfold wCells at hw
        split at hw
        ·rename_i r' h2 hmine
         obtain ⟨s0, hs0, hok, hrs, _⟩ := Heap.mine_spec hmine
         rw [hrow] at hs0; cases hs0
         have ro := hr.ok id B N hp hok
         rw [hrow] at ro
         have h3 := ro.2.1
         have h4 := hn rfl
         have h5 : (len + (m + 1)) * i.size ≤ C * i.size := by omega
         exact Nat.le_of_mul_le_mul_right h5 (Nat.pos_of_ne_zero s.size)
        ·cases hw
       ·cases e1
      ·split at e1
       ·exact tipGrow_ok hr wf fr s ht0 ht hi hm0 rest hcs hp hle (hn rfl) hrow e1
       ·split at e1
        ·rename_i r' h2 hcut
         obtain ⟨g, hget, hnxt⟩ := cutRow_ok hr wf hp hcut
         obtain ⟨z, w', ρ', q1, q2, q3⟩ := tipGrow_ok g.hr g.wf (by rw [hnxt]; exact fr) s ht0 ht hi hm0 rest hcs hp hle (hn rfl) hget e1
         exact ⟨z, w', ρ', q1, g.trans q2, q3⟩
        ·cases e1
     ·cases e1
 ·cases e1
end Go.Px
end
section
namespace Go.Px
theorem size_freeze (w : World) (a : Addr) (n : Nat) : (w.freeze a n).heap.size = w.heap.size := by
 unfold World.freeze; split <;> simp
theorem freeze_block (w : World) (B off n : Nat) {C : Nat} (h : C ≠ B) : (w.freeze ⟨B, off, none⟩ n).heap[C]? = w.heap[C]? := by
 unfold World.freeze; split
 ·rfl
 ·simp [Array.getElem?_modify, Ne.symm h]
theorem same_freeze (w : World) (a : Addr) (n : Nat) : Same w (w.freeze a n) := by
 refine ⟨?_, ?_, ?_, by rw [size_freeze]; exact Nat.le_refl _⟩ <;> (unfold World.freeze; split <;> rfl)
section
variable {c : Ctx} (k : CtxOk c)
include k
theorem src_zero {e : TypeId} {i : TypeInfo} {zc : List AV} (hi : c.info e = some i) (hz : c.zcells e = some zc) (hl : i.size = zc.length) (ρ : Map) : ∃ Z, i.zero = some Z ∧ Z.cells.size = i.size ∧ VRs ρ zc Z.cells.toList := by
 obtain ⟨it, Z, i1, i2, i3, i4⟩ := zcells_ok k hz ρ
 rw [hi] at i4; cases i4
 exact ⟨Z, i2, by rw [hl, i3.length]; simp, i3⟩
theorem append_ok {ρ : Map} {h h' : Heap} {w : World} (hr : HR ρ h w) (wf : WF h) (fr : Free ρ h.nxt h'.nxt) {t t1 : TypeId} {d1 : TypeDesc} {s x v : AV} {S X : Value} (e : oAppend c h t s x = some (v, h')) (hs : VR ρ s S) (hx : VR ρ x X)
  (ts : Array TypeId) (ht0 : ts[0]? = some t) (ht1 : ts[1]? = some t1) (hu1 : c.P.underlying t1 = some d1) (hni : ∀ k, d1 ≠ .int k) (ty : TypeId) (rest : List Value) :
  ∃ z w' ρ', (Builtin.append_ ts ty (S :: X :: rest).toArray).run c.P w = .ok z w' ∧ Good ρ h w ρ' h' w' ∧ VR ρ' v z := by
 unfold oAppend at e
 split at e
 ·rename_i d hd
  have hu := under_eq k hd
  split at e
  ·rename_i el
   split at e
   ·rename_i i hi
    split at e
    ·cases e
    ·rename_i zc hz
     split at e
     ·cases e
     ·rename_i hl
      obtain ⟨Z, z1, z2, z3⟩ := src_zero k hi hz (beqT hl) ρ
      split at e
      ·cases e
      ·rename_i h0
       split at e
       ·cases e
       ·rename_i hb
        split at e
        ·cases e
        ·rename_i m hm
         split at e
         ·cases e
         ·rename_i cs hcs
          obtain ⟨s1, news, s2, s3, s4⟩ := src_ok (P := c.P) hr hx hm hcs
          have src : Src c.P w ts i Z X m news := ⟨.inl ⟨t1, d1, ht1, hu1, hni, s1, fun w' hw => by
           have := s4 w' hw m (Nat.le_refl _)
           rwa [← s3, List.take_length] at this⟩, s3, z1, z2, beqN h0, bleT hb⟩
          exact appCells_ok hr wf fr src ht0 hu (k.tys _ _ hi) rest s2 hs e
   ·cases e
  ·cases e
 ·cases e
theorem appendZ_ok {ρ : Map} {h h' : Heap} {w : World} (hr : HR ρ h w) (wf : WF h) (fr : Free ρ h.nxt h'.nxt) {t t1 : TypeId} {k1 : IntKind} {s x v : AV} {S X : Value} (e : oAppendZ c h t s x = some (v, h')) (hs : VR ρ s S) (hx : VR ρ x X)
  (ts : Array TypeId) (ht0 : ts[0]? = some t) (ht1 : ts[1]? = some t1) (hu1 : c.P.underlying t1 = some (.int k1)) (ty : TypeId) (rest : List Value) :
  ∃ z w' ρ', (Builtin.append_ ts ty (S :: X :: rest).toArray).run c.P w = .ok z w' ∧ Good ρ h w ρ' h' w' ∧ VR ρ' v z := by
 unfold oAppendZ at e
 split at e
 ·rename_i d hd
  have hu := under_eq k hd
  split at e
  ·rename_i el
   split at e
   ·rename_i i hi
    split at e
    ·cases e
    ·rename_i h0
     split at e
     ·cases e
     ·rename_i hb
      split at e
      ·rename_i kx n
       split at e
       ·cases e
       ·rename_i m hm
        obtain ⟨rfl, hmle⟩ := upTo_ok hm
        split at e
        ·cases e
        ·rename_i zc hz
         split at e
         ·cases e
         ·rename_i hl
          obtain ⟨Z, z1, z2, z3⟩ := src_zero k hi hz (beqT hl) ρ
          simp only [VR] at hx; subst hx
          have h0' := beqN h0
          have hl' := beqT hl
          have hmade := made_ok z3 m (by omega)
          have hzc : Builtin.zeroCells Z.cells m = madeCells Z.cells (m * zc.length) := by
           unfold Builtin.zeroCells madeCells
           rw [z2, hl']
          have src : Src c.P w ts i Z (.int kx (m : Int)) m (Builtin.zeroCells Z.cells m).toList := ⟨.inr ⟨t1, k1, kx, ht1, hu1, rfl, hmle, rfl⟩, by simp [zeroCells_size, z2], z1, z2, h0', bleT hb⟩
          exact appCells_ok hr wf fr src ht0 hu (k.tys _ _ hi) rest (by rw [hzc]; exact hmade) hs e
      ·cases e
   ·cases e
  ·cases e
 ·cases e
theorem copy_ok {ρ : Map} {h h' : Heap} {w : World} (hr : HR ρ h w) (wf : WF h) {t : TypeId} {d s v : AV} {D S : Value} (e : oCopy c h t d s = some (v, h')) (hd : VR ρ d D) (hs : VR ρ s S)
  (ts : Array TypeId) (ht0 : ts[0]? = some t) (ty : TypeId) (rest : List Value) :
  ∃ z w', (Builtin.copy_ ts ty (D :: S :: rest).toArray).run c.P w = .ok z w' ∧ Good ρ h w ρ h' w' ∧ VR ρ v z := by
 unfold oCopy at e
 split at e
 ·rename_i dt hdt
  have hu := under_eq k hdt
  split at e
  ·rename_i el
   split at e
   ·rename_i z hz
    split at e
    ·cases e
    ·rename_i m hm
     split at e
     ·cases e
     ·rename_i n hn
      split at e
      ·cases e
      ·rename_i cs hcs
       obtain ⟨s1, news, s2, s3, s4⟩ := src_ok (P := c.P) hr hs hm hcs
       have hfc := s4 w rfl (min m n) (Nat.min_le_left _ _)
       have hD : ∃ base C, D = .slice base n C := by
        unfold dstLen at hn
        split at hn
        ·cases hn; simp only [VR] at hd; exact ⟨_, _, hd⟩
        ·cases hn; simp only [VR] at hd; obtain ⟨B, N, o, C, hp, rfl⟩ := hd; exact ⟨_, _, rfl⟩
        ·cases hn; simp only [VR] at hd; obtain ⟨B, N, C, hp, rfl, _⟩ := hd; exact ⟨_, _, rfl⟩
        ·cases hn
       split at e
       ·rename_i h0
        have h0 := beqT h0
        cases e
        obtain ⟨base, C, rfl⟩ := hD
        rw [h0, Nat.zero_mul, List.take_zero] at hfc
        have h0' : Nat.min m n = 0 := h0
        refine ⟨goInt 0, w, ?_, Good.refl hr wf, by simp [VR, goInt]⟩
        cases base <;> simp [Builtin.copy_, ht0, run_underlying hu, s1, h0', run_size k hz, hfc, storeCells]
       ·split at e
        ·rename_i id off len cap z'
         split at e
         ·cases e
         ·rename_i hzz
          obtain rfl := beqT hzz
          split at e
          ·rename_i h1 hw
           cases e
           simp only [VR] at hd
           obtain ⟨B, N, C, hp, rfl, _⟩ := hd
           obtain ⟨b0, C0, q⟩ := hD
           cases q
           obtain ⟨g, g1, g2, g3⟩ := wCells_ok hr wf hw hp (s2.take _)
           have hst := run_storeCells_cells (P := c.P) B off (news.take (min m n * z)) 0 w (by simpa using g1) (by simpa using g2) g3
           simp only [Nat.add_zero] at hst
           refine ⟨goInt (min m n : Nat), _, ?_, g, by simp only [VR, goInt]; rfl⟩
           have hfc' : (Builtin.firstCells z (m.min n) S).run c.P w = .ok (news.take (min m n * z)).toArray w := hfc
           simp [Builtin.copy_, ht0, run_underlying hu, s1, run_size k hz, hfc', hst]
          ·cases e
        ·cases e
   ·cases e
  ·cases e
 ·cases e
theorem clear_ok {ρ : Map} {h h' : Heap} {w : World} (hr : HR ρ h w) (wf : WF h) {t : TypeId} {x : AV} {X : Value} (e : oClear c h t x = some h') (hx : VR ρ x X)
  (ts : Array TypeId) (ht0 : ts[0]? = some t) (ty : TypeId) (rest : List Value) :
  ∃ w', (Builtin.clear_ ts ty (X :: rest).toArray).run c.P w = .ok (.tuple #[]) w' ∧ Good ρ h w ρ h' w' := by
 unfold oClear at e
 split at e
 ·rename_i dt hdt
  have hu := under_eq k hdt
  split at e
  ·rename_i el
   split at e
   ·cases e
    simp only [VR] at hx; subst hx
    exact ⟨w, by simp [Builtin.clear_, ht0, run_underlying hu], Good.refl hr wf⟩
   ·cases e
    simp only [VR] at hx; obtain ⟨B, N, o, C, hp, rfl⟩ := hx
    exact ⟨w, by simp [Builtin.clear_, ht0, run_underlying hu], Good.refl hr wf⟩
   ·rename_i id off len cap z
    split at e
    ·rename_i i hi
     split at e
     ·cases e
     ·rename_i zc hz
      split at e
      ·cases e
      ·rename_i hl
       split at e
       ·cases e
       ·rename_i hzz
        split at e
        ·cases e
        ·rename_i h0
         obtain ⟨Z, z1, z2, z3⟩ := src_zero k hi hz (beqT hl) ρ
         have h0' := beqN h0
         have hl' := beqT hl
         have hzz' := beqT hzz
         simp only [VR] at hx
         obtain ⟨B, N, C, hp, rfl, _⟩ := hx
         split at e
         ·rename_i hn
          have hn := beqT hn
          subst hn
          cases e
          exact ⟨w, by simp [Builtin.clear_, ht0, run_underlying hu], Good.refl hr wf⟩
         ·rename_i hn
          have hn := beqN hn
          have hmade := made_ok z3 len (by omega)
          have hzc : Builtin.zeroCells Z.cells len = madeCells Z.cells (len * zc.length) := by
           unfold Builtin.zeroCells madeCells
           rw [z2, hl']
          rw [← hzc] at hmade
          obtain ⟨g, g1, g2, g3⟩ := wCells_ok hr wf e hp hmade
          have hst := run_storeCells_cells (P := c.P) B off (Builtin.zeroCells Z.cells len).toList 0 w (by simpa using g1) (by simpa using g2) g3
          simp only [Nat.add_zero] at hst
          refine ⟨_, ?_, g⟩
          obtain ⟨q, rfl⟩ : ∃ q, len = q + 1 := ⟨len - 1, by omega⟩
          have hzv : (zeroValue el).run c.P w = .ok Z w := by simp [zeroValue, run_info k hi, z1]
          simp [Builtin.clear_, ht0, run_underlying hu, hzv, hst]
    ·cases e
   ·cases e
  ·cases e
 ·cases e
omit k in
theorem loadBytesC_ok {P : Program} {w : World} {B : Nat} : ∀ (ns : List Int) (off : Nat) (acc : ByteArray), (∀ (j : Nat) v, (ns.map (Value.int .u8))[j]? = some v → w.cell? ⟨B, off + j, none⟩ = some v) →
  (loadBytes ⟨B, off, none⟩ acc ns.length).run P w = .ok ⟨acc.data ++ ((ns.map Int.toNat).map UInt8.ofNat).toArray⟩ w
 | [], off, acc, h => by simp [loadBytes]
 | n :: ns, off, acc, h => by
  have h0 : w.cell? ⟨B, off, none⟩ = some (.int .u8 n) := by simpa using h 0 (.int .u8 n) rfl
  have ih := loadBytesC_ok (P := P) ns (off + 1) (acc.push n.toNat.toUInt8) (fun j v hv => by
   have := h (j + 1) v (by simpa using hv)
   rw [show off + 1 + j = off + (j + 1) by omega]; exact this)
  simp only [List.length_cons, loadBytes, Sem.run_bind, run_load, h0, Result.andThen_ok, add_off]
  rw [ih]
  simp [ByteArray.push, Nat.toUInt8]
theorem ustr_ok {ρ : Map} {h h' : Heap} {w : World} (hr : HR ρ h w) (wf : WF h) {pt : TypeId} {p n v : AV} {X Y : Value} (e : oUStr c h pt p n = some (v, h')) (hx : VR ρ p X) (hy : VR ρ n Y)
  (ts : Array TypeId) (ht0 : ts[0]? = some pt) (ty : TypeId) :
  ∃ z w', (Builtin.unsafeString_ ts ty #[X, Y]).run c.P w = .ok z w' ∧ Good ρ h w ρ h' w' ∧ VR ρ v z := by
 obtain ⟨s1, s2, s3, s4, s5, hdef⟩ : ∃ s1 s2 s3 s4 s5, ∀ (a : Option Addr) (y : Value), Builtin.unsafeString_ ts ty #[.pointer a, y] = (do
   let n ← asInt y
   let some pt := ts[0]? | stuck s1
   if n < 0 then runtimePanic (.error s2)
   if n > IntKind.i64.max then unsupported (.unsafePointer s3)
   match a with
   | none =>
    if n = 0 then pure (.string .empty)
    else runtimePanic (.error s4)
   | some a =>
    if n = 0 then pure (.string .empty)
    else if ← variablesAt a (← elemOf pt) n.toNat then do
     let s ← loadBytes a .empty n.toNat
     freeze a n.toNat
     pure (.string s)
    else unsupported (.unsafePointer s5)) := ⟨_, _, _, _, _, fun a y => by cases a <;> rfl⟩
 have hmax : IntKind.i64.max = 9223372036854775807 := rfl
 unfold oUStr at e
 split at e
 ·rename_i m0
  simp only [VR] at hy; subst hy
  split at e
  ·split at e
   ·cases e
   ·rename_i m hm
    obtain ⟨rfl, hle⟩ := upTo_ok hm
    have hneg : ¬ ((m : Int) < 0) := by omega
    have hbig : ¬ ((9223372036854775807 : Int) < (m : Int)) := by omega
    split at e
    ·rename_i hm0
     obtain rfl := beqT hm0
     split at e
     ·cases e
      simp only [VR] at hx; subst hx
      refine ⟨.string .empty, w, ?_, Good.refl hr wf, by simp only [VR]; rfl⟩
      rw [hdef]; simp [ht0, asInt, asIntOf, hmax]
     ·cases e
      simp only [VR] at hx; obtain ⟨B, N, hp, rfl⟩ := hx
      refine ⟨.string .empty, w, ?_, Good.refl hr wf, by simp only [VR]; rfl⟩
      rw [hdef]; simp [ht0, asInt, asIntOf, hmax]
     ·cases e
    ·rename_i hm0
     have hm0 := beqN hm0
     split at e
     ·rename_i id off
      split at e
      ·cases e
      ·rename_i hoff
       obtain rfl := beqT hoff
       split at e
       ·rename_i d hd
        have hu := under_eq k hd
        split at e
        ·rename_i el
         split at e
         ·rename_i z hz
          split at e
          ·cases e
          ·rename_i hz1
           obtain rfl := beqT hz1
           split at e
           ·cases e
           ·rename_i r h1 hmine
            split at e
            ·cases e
            ·rename_i hrt
             have hrt := beqT hrt
             split at e
             ·cases e
             ·rename_i hmn
              have hmn := bleT hmn
              split at e
              ·rename_i l hl
               cases e
               simp only [VR] at hx
               obtain ⟨B, N, hp, rfl⟩ := hx
               obtain ⟨s, hs, hok, hrs, _⟩ := Heap.mine_spec hmine
               have ro := hr.ok id B N hp hok
               rw [hs] at ro
               have ro : RowOk ρ r B N w := by rw [hrs]; exact ro
               obtain ⟨L, l1, l2, l3⟩ := RowOk.reads ro m 0 (by omega)
               obtain ⟨ns, n1, n2⟩ := bytesA_ok _ L l hl l1
               have hlen : ns.length = m := by rw [← l2, n1]; simp
               have hlb := loadBytesC_ok (P := c.P) (w := w) (B := B) ns 0 ByteArray.empty (fun j v hv => l3 j v (by rw [n1]; exact hv))
               rw [hlen, n2] at hlb
               have hsh : w.shape? B = some (el, N) := by rw [ro.1, hrt]
               have hc1 : c.P.cellsOf el = 1 := by
                have h2 := run_size k hz w
                have h3 : (sizeOf el).run c.P w = .ok (c.P.cellsOf el) w := by
                 unfold Ctx.size at hz
                 cases hi : c.info el with
                 | none => rw [hi] at hz; cases hz
                 | some i => exact run_sizeOf w (k.tys el i hi)
                rw [h3] at h2; injection h2
               have hN := ro.2.1
               have hlies := Lib.liesAt_bytes (P := c.P) hc1 (N / c.P.cellsOf el) m (by rw [hc1, Nat.div_one]; omega)
               refine ⟨.string (bs l), w.freeze ⟨B, 0, none⟩ m, ?_, ?_, by simp only [VR]⟩
               ·rw [hdef]
                have he0 : ByteArray.empty.data = #[] := rfl
                rw [he0] at hlb
                simp [ht0, asInt, asIntOf, hmax, hneg, hbig, hm0, variablesAt, hsh, elemOf, run_underlying hu, hlies, hlb, bs]
               ·exact Good.writeAny hr wf hp hmine (b' := .none) (fun x q => by cases q) (fun x q => by cases q) rfl trivial (fun C hC => freeze_block w B 0 m hC) (same_freeze w _ _) (size_freeze w _ _)
              ·cases e
         ·cases e
        ·cases e
       ·cases e
     ·cases e
  ·cases e
 ·cases e
omit k in
theorem sdata_ok {P : Program} {ρ : Map} {w : World} {x v : AV} {X : Value} (e : oSData x = some v) (hx : VR ρ x X) (ts : Array TypeId) (ty : TypeId) :
  ∃ z, (Builtin.unsafeSliceData_ ts ty #[X]).run P w = .ok z w ∧ VR ρ v z := by
 unfold oSData at e
 split at e
 ·cases e; simp only [VR] at hx; subst hx
  exact ⟨.pointer none, rfl, by simp only [VR]⟩
 ·rename_i id off len cap z
  split at e
  ·cases e
  ·rename_i hl
   have hl := beqN hl
   cases e
   simp only [VR] at hx
   obtain ⟨B, N, C, hp, rfl, hle, _⟩ := hx
   exact ⟨.pointer (some ⟨B, off, none⟩), Lib.run_unsafeSliceData_row (P := P) w ts ty _ len C (by omega), by simp only [VR]; exact ⟨B, N, hp, rfl⟩⟩
 ·cases e
end
end Go.Px
end
section
namespace Go.Px
def NR (ρ : Map) (v : AV) (nx : Next) : Prop := (∃ z, nx = .value z ∧ VR ρ v z) ∨ (nx = .skip ∧ VR ρ v undef)
theorem und_ok (ρ : Map) : VR ρ und undef := by unfold und undef; simp only [VR]; exact ⟨[], by simp [VRs], rfl⟩
section
variable {c : Ctx} (k : CtxOk c)
include k
theorem builtin_ok {ρ : Map} {h h' : Heap} {w : World} (hr : HR ρ h w) (wf : WF h) (fr : Free ρ h.nxt h'.nxt) {b : Builtin} {ts : Array TypeId} {l : List AV} {L : List Value} {v : AV} (e : oBuiltin c h b ts l = some (.v v h')) (hl : VRs ρ l L)
  (ty : TypeId) (cs : Array Bool) : ∃ z w' ρ', (builtin b ts ty cs L.toArray).run c.P w = .ok (.value z) w' ∧ Good ρ h w ρ' h' w' ∧ VR ρ' v z := by
 unfold oBuiltin at e
 have lift : ∀ {s : Sem Value} {z w'}, s.run c.P w = .ok z w' → (do pure (.value (← s)) : Sem Next).run c.P w = .ok (.value z) w' := fun q => by simp [q]
 split at e
 ·-- len
  split at e
  ·rename_i x r
   simp only [VRs] at hl
   obtain ⟨X, R, hx, _, rfl⟩ := hl
   split at e
   ·rename_i t ht
    rw [nth_eq] at ht
    split at e
    ·rename_i u hu
     cases e
     obtain ⟨z, z1, z2⟩ := len_ok k hr hu hx ts (by simpa using ht) ty R
     exact ⟨z, w, ρ, lift z1, Good.refl hr wf, z2⟩
    ·cases e
   ·cases e
  ·cases e
 ·-- cap
  split at e
  ·rename_i x r
   simp only [VRs] at hl
   obtain ⟨X, R, hx, _, rfl⟩ := hl
   split at e
   ·rename_i t ht
    rw [nth_eq] at ht
    split at e
    ·rename_i u hu
     cases e
     obtain ⟨z, z1, z2⟩ := cap_ok k (w := w) hu hx ts (by simpa using ht) ty R
     exact ⟨z, w, ρ, lift z1, Good.refl hr wf, z2⟩
    ·cases e
   ·cases e
  ·cases e
 ·-- append
  split at e
  ·rename_i s r
   split at e
   ·rename_i x r
    simp only [VRs] at hl
    obtain ⟨S, _, hs, ⟨X, R, hx, _, rfl⟩, rfl⟩ := hl
    split at e
    ·rename_i t ht
     rw [nth_eq] at ht
     split at e
     ·rename_i t1 ht1
      rw [nth_eq] at ht1
      split at e
      ·rename_i d hd
       have hu1 := under_eq k hd
       split at e
       ·split at e
        ·rename_i u h1 hu
         cases e
         obtain ⟨z, w', ρ', z1, z2, z3⟩ := appendZ_ok k hr wf fr hu hs hx ts (by simpa using ht) (by simpa using ht1) hu1 ty R
         exact ⟨z, w', ρ', lift z1, z2, z3⟩
        ·cases e
       ·rename_i hni
        split at e
        ·rename_i u h1 hu
         cases e
         obtain ⟨z, w', ρ', z1, z2, z3⟩ := append_ok k hr wf fr hu hs hx ts (by simpa using ht) (by simpa using ht1) hu1 (fun kk q => hni kk q) ty R
         exact ⟨z, w', ρ', lift z1, z2, z3⟩
        ·cases e
      ·cases e
     ·cases e
    ·cases e
   ·cases e
  ·cases e
 ·-- copy
  split at e
  ·rename_i s r
   split at e
   ·rename_i x r
    simp only [VRs] at hl
    obtain ⟨S, _, hs, ⟨X, R, hx, _, rfl⟩, rfl⟩ := hl
    split at e
    ·rename_i t ht
     rw [nth_eq] at ht
     split at e
     ·rename_i u h1 hu
      cases e
      obtain ⟨z, w', z1, z2, z3⟩ := copy_ok k hr wf hu hs hx ts (by simpa using ht) ty R
      exact ⟨z, w', ρ, lift z1, z2, z3⟩
     ·cases e
    ·cases e
   ·cases e
  ·cases e
 ·-- delete
  split at e
  ·rename_i s r
   split at e
   ·rename_i x r
    simp only [VRs] at hl
    obtain ⟨S, _, hs, ⟨X, R, hx, _, rfl⟩, rfl⟩ := hl
    split at e
    ·rename_i t ht
     rw [nth_eq] at ht
     split at e
     ·rename_i h1 hu
      cases e
      obtain ⟨w', z1, z2⟩ := delete_ok k hr wf hu hs hx ts (by simpa using ht) ty R
      exact ⟨_, w', ρ, lift z1, z2, und_ok ρ⟩
     ·cases e
    ·cases e
   ·cases e
  ·cases e
 ·-- clear
  split at e
  ·rename_i x r
   simp only [VRs] at hl
   obtain ⟨X, R, hx, _, rfl⟩ := hl
   split at e
   ·rename_i t ht
    rw [nth_eq] at ht
    split at e
    ·rename_i h1 hu
     cases e
     obtain ⟨w', z1, z2⟩ := clear_ok k hr wf hu hx ts (by simpa using ht) ty R
     exact ⟨_, w', ρ, lift z1, z2, und_ok ρ⟩
    ·cases e
   ·cases e
  ·cases e
 ·-- the builtin String
  split at e
  ·rename_i p r
   split at e
   ·rename_i n r2
    split at e
    ·simp only [VRs] at hl
     obtain ⟨X, _, hx, ⟨Y, _, hy, rfl, rfl⟩, rfl⟩ := hl
     split at e
     ·rename_i pt ht
      rw [nth_eq] at ht
      split at e
      ·rename_i u h1 hu
       cases e
       obtain ⟨z, w', z1, z2, z3⟩ := ustr_ok k hr wf hu hx hy ts (by simpa using ht) ty
       exact ⟨z, w', ρ, lift z1, z2, z3⟩
      ·cases e
     ·cases e
    ·cases e
   ·cases e
  ·cases e
 ·-- the builtin SliceData
  split at e
  ·rename_i x r
   split at e
   ·simp only [VRs] at hl
    obtain ⟨X, _, hx, rfl, rfl⟩ := hl
    split at e
    ·rename_i u hu
     cases e
     obtain ⟨z, z1, z2⟩ := sdata_ok (P := c.P) (w := w) hu hx ts ty
     exact ⟨z, w, ρ, lift z1, Good.refl hr wf, z2⟩
    ·cases e
   ·cases e
  ·cases e
 ·-- min
  split at e
  ·rename_i u hu
   cases e
   cases l with
   | nil => cases hu
   | cons x l =>
    simp only [VRs] at hl
    obtain ⟨X, R, hx, hl, rfl⟩ := hl
    obtain ⟨z, z1, z2⟩ := min_ok (P := c.P) false l R x X v hl hx hu w
    refine ⟨z, w, ρ, lift ?_, Good.refl hr wf, z2⟩
    simpa [Builtin.min_] using z1
  ·cases e
 ·split at e
  ·rename_i u hu
   cases e
   cases l with
   | nil => cases hu
   | cons x l =>
    simp only [VRs] at hl
    obtain ⟨X, R, hx, hl, rfl⟩ := hl
    obtain ⟨z, z1, z2⟩ := min_ok (P := c.P) true l R x X v hl hx hu w
    refine ⟨z, w, ρ, lift ?_, Good.refl hr wf, z2⟩
    simpa [Builtin.max_] using z1
  ·cases e
 ·cases e
end
end Go.Px
end
section
namespace Go.Px
theorem val_eq {h h' : Heap} {r : Option AV} {v : AV} (e : val h r = some (.v v h')) : r = some v ∧ h' = h := by
 unfold val at e; split at e
 ·cases e; exact ⟨rfl, rfl⟩
 ·cases e
theorem valH_eq {h' : Heap} {r : Option (AV × Heap)} {v : AV} (e : valH r = some (.v v h')) : r = some (v, h') := by
 unfold valH at e; split at e
 ·cases e; rfl
 ·cases e
theorem unit_eq {h' : Heap} {r : Option Heap} {v : AV} (e : unit r = some (.v v h')) : r = some h' ∧ v = und := by
 unfold unit at e; split at e
 ·cases e; exact ⟨rfl, rfl⟩
 ·cases e
/-! an allocating operation gives one number -/
theorem box_nxt {h h' : Heap} {t : TypeId} {a v : AV} (e : oBox h t a = some (v, h')) : h'.nxt = h.nxt + 1 := by
 unfold oBox at e; cases a <;> simp at e <;> (obtain ⟨_, rfl⟩ := e; rfl)
theorem alloc_nxt {c : Ctx} {h h' : Heap} {t : TypeId} {v : AV} (e : oAlloc c h t = some (v, h')) : h'.nxt = h.nxt + 1 := by
 unfold oAlloc at e; split at e
 ·exact box_nxt e
 ·cases e
theorem makeMap_nxt {c : Ctx} {h h' : Heap} {t : TypeId} {r : Option AV} {v : AV} (e : oMakeMap c h t r = some (v, h')) : h'.nxt = h.nxt + 1 := by
 unfold oMakeMap at e
 repeat' (split at e)
 all_goals first | (cases e; done) | (cases e; rfl)
theorem makeSlice_nxt {c : Ctx} {h h' : Heap} {t : TypeId} {l kk v : AV} (e : oMakeSlice c h t l kk = some (v, h')) : h'.nxt = h.nxt + 1 := by
 unfold oMakeSlice at e
 repeat' (split at e)
 all_goals first | (cases e; done) | (cases e; rfl)
theorem buildSlice_nxt {c : Ctx} {h h' : Heap} {t : TypeId} {n : Nat} {ps : List (Nat × AV)} {v : AV} (e : oBuildSlice c h t n ps = some (v, h')) : h'.nxt = h.nxt + 1 := by
 unfold oBuildSlice at e
 repeat' (split at e)
 all_goals first | (cases e; done) | (cases e; rfl)
theorem range_nxt {c : Ctx} {h h' : Heap} {t : TypeId} {x v : AV} (e : oRange c h t x = some (v, h')) : h'.nxt = h.nxt + 1 := by
 unfold oRange at e
 repeat' (split at e)
 all_goals first | (cases e; done) | (cases e; rfl)
section
variable {c : Ctx} (k : CtxOk c)
include k
theorem opA_ok {ρ : Map} {h h' : Heap} {w : World} (hr : HR ρ h w) (wf : WF h) (fr : Free ρ h.nxt h'.nxt) {o : Oper} {a : Act} {sz : Nat} {e : T AV} (er : ER ρ e a.tmps sz) {v : AV} (he : opA c e h o.op = some (.v v h')) :
  ∃ nx w' ρ', (execOp a.eval o).run c.P w = .ok nx w' ∧ Good ρ h w ρ' h' w' ∧ NR ρ' v nx := by
 have ev := fun x => ev_ok er x
 have evo := fun x => evo_ok er x
 have fr0 : h'.nxt = h.nxt + 1 → ρ h.nxt = none := fun q => fr _ (Nat.le_refl _) (by omega)
 have pure1 : ∀ {s : Sem Value}, execOp a.eval o = (do pure (.value (← s))) → (∃ z, s.run c.P w = .ok z w ∧ VR ρ v z) → h' = h → ∃ nx w' ρ', (execOp a.eval o).run c.P w = .ok nx w' ∧ Good ρ h w ρ' h' w' ∧ NR ρ' v nx := fun q1 q2 q3 => by
  obtain ⟨z, z1, z2⟩ := q2
  subst q3
  exact ⟨.value z, w, ρ, by rw [q1]; simp [z1], Good.refl hr wf, .inl ⟨z, rfl, z2⟩⟩
 have pure2 : ∀ {s : Sem Value}, execOp a.eval o = (do pure (.value (← s))) → (∃ z w' ρ', s.run c.P w = .ok z w' ∧ Good ρ h w ρ' h' w' ∧ VR ρ' v z) → ∃ nx w' ρ', (execOp a.eval o).run c.P w = .ok nx w' ∧ Good ρ h w ρ' h' w' ∧ NR ρ' v nx := fun q1 q2 => by
  obtain ⟨z, w', ρ', z1, z2, z3⟩ := q2
  exact ⟨.value z, w', ρ', by rw [q1]; simp [z1], z2, .inl ⟨z, rfl, z3⟩⟩
 have pure3 : ∀ {s : Sem Unit}, execOp a.eval o = (do s; pure .skip) → (∃ w', s.run c.P w = .ok () w' ∧ Good ρ h w ρ h' w') → v = und → ∃ nx w' ρ', (execOp a.eval o).run c.P w = .ok nx w' ∧ Good ρ h w ρ' h' w' ∧ NR ρ' v nx := fun q1 q2 q3 => by
  obtain ⟨w', z1, z2⟩ := q2
  subst q3
  exact ⟨.skip, w', ρ, by rw [q1]; simp [z1], z2, .inr ⟨rfl, und_ok ρ⟩⟩
 cases ho : o.op <;> rw [ho] at he <;> simp only [opA] at he <;> try (cases he; done)
 case move x =>
  cases he
  exact ⟨.value (a.eval x), w, ρ, by simp [execOp, ho], Good.refl hr wf, .inl ⟨_, rfl, ev x⟩⟩
 case assign x =>
  cases he
  exact ⟨.value (a.eval x), w, ρ, by simp [execOp, ho], Good.refl hr wf, .inl ⟨_, rfl, ev x⟩⟩
 case pick b x y =>
  split at he
  ·rename_i bb hb
   have hb' := ev b
   rw [hb] at hb'
   simp only [VR] at hb'
   cases he
   refine ⟨.value (if bb then a.eval x else a.eval y), w, ρ, by simp [execOp, ho, hb', asBool], Good.refl hr wf, .inl ⟨_, rfl, ?_⟩⟩
   cases bb
   ·exact ev y
   ·exact ev x
  ·cases he
 case alloc t => exact pure2 (s := Instr.alloc t true (.tuple #[])) (by simp only [execOp, ho]) (alloc_ok k hr wf (fr0 (alloc_nxt (valH_eq he))) (valH_eq he) _)
 case box t x => exact pure2 (by simp only [execOp, ho]) (box_ok (P := c.P) hr wf (fr0 (box_nxt (valH_eq he))) (valH_eq he) (ev x))
 case build t ps =>
  obtain ⟨q1, q2⟩ := val_eq he
  obtain ⟨z, z1, z2⟩ := build_ok k q1 (parts_ok er ps)
  exact pure1 (by simp only [execOp, ho]) ⟨z, z1 w, z2⟩ q2
 case buildSlice t n ps => exact pure2 (by simp only [execOp, ho]) (buildSlice_ok k hr wf (fr0 (buildSlice_nxt (valH_eq he))) (valH_eq he) (parts_ok er ps))
 case load t x =>
  obtain ⟨q1, q2⟩ := val_eq he
  exact pure1 (by simp only [execOp, ho]) (load_ok k hr q1 (ev x)) q2
 case store t x y =>
  obtain ⟨q1, q2⟩ := unit_eq he
  exact pure3 (by simp only [execOp, ho]) (store_ok k hr wf q1 (ev x) (ev y)) q2
 case nilCheck x =>
  obtain ⟨q1, q2⟩ := val_eq he
  subst q2
  obtain ⟨z1, z2⟩ := nilCheck_ok (c := c) q1 (ev x) o x a ho rfl w
  exact ⟨_, w, ρ, z1, Good.refl hr wf, .inl ⟨_, rfl, z2⟩⟩
 case binOp op t x y _ =>
  obtain ⟨q1, q2⟩ := val_eq he
  exact pure1 (by simp only [execOp, ho]) (binX_ok k (t2 := t) q1 (ev x) (ev y) w) q2
 case unOp op _ x =>
  obtain ⟨q1, q2⟩ := val_eq he
  exact pure1 (by simp only [execOp, ho]) (un_ok q1 (ev x) w) q2
 case convert s t x => exact pure2 (by simp only [execOp, ho]) (convert_ok k hr wf fr (valH_eq he) (ev x))
 case sliceToArrayPointer t x =>
  obtain ⟨q1, q2⟩ := val_eq he
  obtain ⟨z, z1, z2⟩ := toArrayPtr_ok k q1 (ev x)
  exact pure1 (by simp only [execOp, ho]) ⟨z, z1 w, z2⟩ q2
 case makeInterface t x =>
  obtain ⟨q1, q2⟩ := val_eq he
  obtain ⟨z, z1, z2⟩ := makeInterface_ok k q1 (ev x)
  exact pure1 (by simp only [execOp, ho]) ⟨z, z1 w, z2⟩ q2
 case makeMap t r => exact pure2 (by simp only [execOp, ho]) (makeMap_ok k hr wf (fr0 (makeMap_nxt (valH_eq he))) (valH_eq he) (evo r))
 case makeSlice t l kk => exact pure2 (by simp only [execOp, ho]) (makeSlice_ok k hr wf (fr0 (makeSlice_nxt (valH_eq he))) (valH_eq he) (ev l) (ev kk))
 case slice t x lo hi mx =>
  obtain ⟨q1, q2⟩ := val_eq he
  exact pure1 (by simp only [execOp, ho]) (sliceH_ok k hr q1 (ev x) (evo lo) (evo hi) (evo mx)) q2
 case fieldAddr t x i =>
  obtain ⟨q1, q2⟩ := val_eq he
  obtain ⟨z, z1, z2⟩ := fieldAddr_ok k q1 (ev x)
  exact pure1 (by simp only [execOp, ho]) ⟨z, z1 w, z2⟩ q2
 case field t x i =>
  obtain ⟨q1, q2⟩ := val_eq he
  obtain ⟨z, z1, z2⟩ := field_ok k q1 (ev x)
  exact pure1 (by simp only [execOp, ho]) ⟨z, z1 w, z2⟩ q2
 case indexAddr t x i =>
  obtain ⟨q1, q2⟩ := val_eq he
  obtain ⟨z, z1, z2⟩ := indexAddr_ok k q1 (ev x) (ev i)
  exact pure1 (by simp only [execOp, ho]) ⟨z, z1 w, z2⟩ q2
 case index t x i =>
  obtain ⟨q1, q2⟩ := val_eq he
  obtain ⟨z, z1, z2⟩ := index_ok k q1 (ev x) (ev i)
  exact pure1 (by simp only [execOp, ho]) ⟨z, z1 w, z2⟩ q2
 case lookup t x y ok =>
  obtain ⟨q1, q2⟩ := val_eq he
  exact pure1 (by simp only [execOp, ho]) (lookup_ok k hr q1 (ev x) (ev y)) q2
 case mapUpdate t m kk x =>
  obtain ⟨q1, q2⟩ := unit_eq he
  exact pure3 (by simp only [execOp, ho]) (mapUpdate_ok k hr wf q1 (ev m) (ev kk) (ev x)) q2
 case insert t m kk x =>
  obtain ⟨q1, q2⟩ := unit_eq he
  exact pure3 (by simp only [execOp, ho]) (mapUpdate_ok k hr wf q1 (ev m) (ev kk) (ev x)) q2
 case mapEntry t m kk =>
  obtain ⟨z, w', z1, z2, z3⟩ := mapEntry_ok k hr wf (valH_eq he) (ev m) (ev kk)
  exact pure2 (by simp only [execOp, ho]) ⟨z, w', ρ, z1, z2, z3⟩
 case entryStore t m s x =>
  obtain ⟨q1, q2⟩ := unit_eq he
  exact pure3 (by simp only [execOp, ho]) (entryStore_ok hr wf q1 (ev m) (ev s) (ev x) t) q2
 case range t x => exact pure2 (by simp only [execOp, ho]) (range_ok k hr wf (fr0 (range_nxt (valH_eq he))) (valH_eq he) (ev x))
 case next x s =>
  obtain ⟨z, w', z1, z2, z3⟩ := next_ok (P := c.P) hr wf (valH_eq he) (ev x) o.type
  exact pure2 (by simp only [execOp, ho]) ⟨z, w', ρ, z1, z2, z3⟩
 case entry x =>
  obtain ⟨q1, q2⟩ := val_eq he
  exact pure1 (by simp only [execOp, ho]) (entry_ok hr q1 (ev x)) q2
 case extract x i =>
  obtain ⟨q1, q2⟩ := val_eq he
  exact pure1 (by simp only [execOp, ho]) (extract_ok q1 (ev x) w) q2
 case makeFunc f first cap =>
  split at he
  ·rename_i f
   cases he
   refine ⟨.value (.func (.func f) (first.map a.eval) (cap.map a.eval)), w, ρ, by simp [execOp, ho, Instr.makeFunc], Good.refl hr wf, .inl ⟨_, rfl, ?_⟩⟩
   simp only [VR, FR]
   refine ⟨_, _, _, rfl, evs_ok er first.toList, evs_ok er cap.toList, ?_⟩
   congr 1 <;> (apply Array.ext'; simp)
  ·cases he
 case call cl =>
  unfold oCall at he
  cases hc : cl.callee with
  | builtin b =>
   rw [hc] at he
   simp only [] at he
   obtain ⟨CS, hCS⟩ : ∃ CS, (execOp a.eval o).run c.P w = (builtin b cl.argTypes o.type CS (cl.args.map a.eval)).run c.P w :=
    ⟨_, by simp only [execOp, ho, resolve, hc, Sem.run_bind, Sem.run_pure, Result.andThen_ok, invoke]; rfl⟩
   obtain ⟨z, w', ρ', z1, z2, z3⟩ := builtin_ok k hr wf fr he (evs_ok er cl.args.toList) o.type CS
   refine ⟨.value z, w', ρ', ?_, z2, .inl ⟨z, rfl, z3⟩⟩
   have : (cl.args.toList.map a.eval).toArray = cl.args.map a.eval := by apply Array.ext'; simp
   rw [this] at z1
   rw [hCS]; exact z1
  | value f =>
   rw [hc] at he
   simp only [] at he
   split at he
   ·split at he <;> cases he
   ·cases he
  | invoke x y => rw [hc] at he; cases he
end
end Go.Px
end
section
namespace Go.Px
def wideR (ro : Option Nat) : Fence := { Fence.wide with round := ro }
def FreeIdx (ρ : Map) (h : Heap) : Prop := ∀ i, h.nxt ≤ i → ρ i = none
def FreeUp (c : Ctx) (ρ : Map) (h : Heap) : Prop := FreeIdx ρ h ∧ ∀ i r, c.g0.get i = .gl r → h.get i = .gl r
theorem FreeUp.free {c : Ctx} {ρ : Map} {h : Heap} (f : FreeUp c ρ h) (n : Nat) : Free ρ h.nxt n := fun i a _ => f.1 i a
theorem Good.upI {ρ ρ' : Map} {h h' : Heap} {w w' : World} (g : Good ρ h w ρ' h' w') (f : FreeIdx ρ h) : FreeIdx ρ' h' := fun i a => by
 cases e : ρ' i with
 | none => rfl
 | some p =>
  rcases g.dom i p e with q | ⟨_, q⟩
  ·have := g.nxt; rw [f i (by omega)] at q; cases q
  ·omega
theorem Good.up {c : Ctx} {ρ ρ' : Map} {h h' : Heap} {w w' : World} (g : Good ρ h w ρ' h' w') (f : FreeUp c ρ h) : FreeUp c ρ' h' := ⟨g.upI f.1, fun i r q => g.gl i r (f.2 i r q)⟩
def EndR (R : Value → World → Prop) : Ending → World → Prop
 | .returned v, w => R v w
 | _, _ => False
def NextOk (P : Program) (R : Value → World → Prop) : Next → World → Prop
 | .value v, w => R v w
 | .skip, w => R undef w
 | .enter f args, w => CallsIn Fence.wide 0 P f args w (EndR R)
 | .round l f tmps a b, w => RoundIn Fence.wide 0 P l f tmps a b w (EndR R)
 | _, _ => False
theorem callsIn_ro {ro : Option Nat} {P : Program} {f : FuncId} {args : Array Value} {w : World} {R : Ending → World → Prop} (h : CallsIn Fence.wide 0 P f args w R) : CallsIn (wideR ro) 0 P f args w R := h
theorem roundIn_ro {ro : Option Nat} {P : Program} {l : Nat} {f : FuncId} {tmps : Array Value} {a b : Code} {w : World} {R : Ending → World → Prop} (h : RoundIn Fence.wide 0 P l f tmps a b w R) : RoundIn (wideR ro) 0 P l f tmps a b w R := h
def AppOk (c : Ctx) (app : App) : Prop :=
 ∀ t args h v h', app t args h = .ok v h' → ∀ (ρ : Map) (w : World) (A : List Value), HR ρ h w → WF h → FreeUp c ρ h → VRs ρ args A →
  match t with
  | .f f => ∃ nx w1, (callFunc f A.toArray).run c.P w = .ok nx w1 ∧ NextOk c.P (fun z w' => ∃ ρ', Good ρ h w ρ' h' w' ∧ VR ρ' v z) nx w1
  | .y l => ∀ B N, ρ l = some (B, N) → ∃ nx w1, (Instr.yield B A.toArray).run c.P w = .ok nx w1 ∧ NextOk c.P (fun z w' => ∃ ρ', Good ρ h w ρ' h' w' ∧ VR ρ' v z) nx w1
theorem uponIn_of_next {ro : Option Nat} {P : Program} {o : Oper} {a : Act} {next : Act → World → Prop} {Q : Exit → Act → World → Prop} {R : Value → World → Prop} {nx : Next} {w : World}
  (h : NextOk P R nx w) (k : ∀ z w', R z w' → next (a.put o.dst z) w') : o.uponIn (wideR ro) 0 P a next Q (.ok nx w) := by
 cases nx <;> simp only [NextOk] at h
 case value v => exact k _ _ h
 case skip => exact k _ _ h
 case enter f args =>
  refine ⟨fun q => by simp [wideR, Fence.wide] at q, CallsIn.mono (callsIn_ro h) fun e w' r => ?_⟩
  cases e <;> simp only [EndR] at r
  exact k _ _ r
 case round l f tmps a b =>
  refine ⟨fun q => by simp [wideR, Fence.wide] at q, RoundIn.mono (roundIn_ro h) fun e w' r => ?_⟩
  cases e <;> simp only [EndR] at r
  exact k _ _ r
section
variable {c : Ctx} (k : CtxOk c) {app : App} (ha : AppOk c app)
noncomputable def opR (c : Ctx) (app : App) (e : T AV) (h : Heap) (o : Op) : Option (AV × Heap) :=
 match opA c e h o with
 | none => none
 | some (.v a h') => some (a, h')
 | some (.go t args h') => (match app t args h' with
  | .ok a h'' => some (a, h'')
  | .bad _ => none)
theorem opA_go {c : Ctx} {e : T AV} {h h' : Heap} {o : Op} {t : Tgt} {args : List AV} (he : opA c e h o = some (.go t args h')) :
  h' = h ∧ ∃ cl f, o = .call cl ∧ cl.callee = .value f ∧ ∃ g first cap, ev e f = .fn g first cap ∧
   ((∃ f', g = .func f' ∧ t = .f f' ∧ args = first ++ cl.args.toList.map (ev e) ++ cap) ∨ (∃ l, g = .yield l ∧ t = .y l ∧ args = first ++ cl.args.toList.map (ev e))) := by
 cases o <;> simp only [opA] at he <;> try (cases he; done)
 all_goals try (first
  | (unfold val at he; split at he <;> cases he; done)
  | (unfold valH at he; split at he <;> cases he; done)
  | (unfold unit at he; split at he <;> cases he; done)
  | (split at he <;> cases he; done))
 case call cl =>
  unfold oCall at he
  split at he
  ·rename_i b hb
   exfalso
   unfold oBuiltin at he
   repeat' (split at he)
   all_goals first | (cases he; done) | (simp at he; done) | (unfold val at he; split at he <;> cases he; done)
  ·rename_i f hf
   split at he
   ·rename_i g first cap hg
    split at he
    ·cases he; exact ⟨rfl, cl, f, rfl, hf, _, first, cap, hg, .inl ⟨_, rfl, rfl, rfl⟩⟩
    ·cases he; exact ⟨rfl, cl, f, rfl, hf, _, first, cap, hg, .inr ⟨_, rfl, rfl, rfl⟩⟩
    ·cases he
   ·cases he
  ·cases he
theorem opA_defer {c : Ctx} {e : T AV} {h : Heap} {o : Op} {r : Out} (he : opA c e h o = some r) : ∀ d, o ≠ .defer d := by
 intro d hd; subst hd; simp only [opA] at he; cases he
include k ha in
theorem opR_ok {ρ : Map} {h h' : Heap} {w : World} (hr : HR ρ h w) (wf : WF h) (fr : FreeUp c ρ h) {o : Oper} {a : Act} {sz : Nat} {e : T AV} (er : ER ρ e a.tmps sz) {v : AV}
  (he : opR c app e h o.op = some (v, h')) {ro : Option Nat} {next : Act → World → Prop} {Q : Exit → Act → World → Prop}
  (hn : ∀ z w' ρ', Good ρ h w ρ' h' w' → VR ρ' v z → next (a.put o.dst z) w') : o.wpIn (wideR ro) 0 c.P a w next Q := by
 refine ⟨fun _ _ => trivial, ?_⟩
 unfold opR at he
 cases hop : opA c e h o.op with
 | none => rw [hop] at he; cases he
 | some r =>
  rw [show (wideR ro).round = ro from rfl, Oper.semAt_eq ro a.eval o (opA_defer hop)]
  rw [hop] at he
  cases r with
  | v b h1 =>
   simp only [] at he; cases he
   obtain ⟨nx, w', ρ', q1, q2, q3⟩ := opA_ok k hr wf (fr.free _) er hop
   rw [q1]
   rcases q3 with ⟨z, rfl, q3⟩ | ⟨rfl, q3⟩
   ·exact hn _ _ _ q2 q3
   ·exact hn _ _ _ q2 q3
  | go t args h1 =>
   simp only [] at he
   obtain ⟨rfl, cl, f, ho, hf, g, first, cap, hg, hcase⟩ := opA_go hop
   cases hap : app t args h1 with
   | bad l => rw [hap] at he; cases he
   | ok b h2 =>
    rw [hap] at he; cases he
    have hfv := ev_ok er f
    rw [hg] at hfv
    simp only [VR] at hfv
    obtain ⟨f', F, C, e1, e2, e3, e4⟩ := hfv
    have hargs := evs_ok er cl.args.toList
    have happ := ha t args h1 v h' hap ρ w
    have hres : ∀ d, d = ({ target := .fn f' C.toArray, args := F.toArray ++ cl.args.map a.eval } : Deferred) → (execOp a.eval o).run c.P w = (invoke d.target d.args).run c.P w := by
     intro d hd
     subst hd
     simp only [execOp, ho, resolve, hf, e4, Deferred.ofValue, Sem.run_bind, Sem.run_pure, Result.andThen_ok]
    rw [hres _ rfl]
    have hA : (F.toArray ++ cl.args.map a.eval) = (F ++ cl.args.toList.map a.eval).toArray := by apply Array.ext'; simp
    rcases hcase with ⟨fi, rfl, rfl, rfl⟩ | ⟨l, rfl, rfl, rfl⟩
    ·simp only [FR] at e1
     subst e1
     obtain ⟨nx, w1, q1, q2⟩ := happ (F ++ cl.args.toList.map a.eval ++ C) hr wf fr (VRs.append (VRs.append e2 hargs) e3)
     have : (invoke (.fn (.func fi) C.toArray) (F.toArray ++ cl.args.map a.eval)).run c.P w = .ok nx w1 := by
      rw [hA]
      simp only [invoke]
      rw [← q1]
      congr 2
      apply Array.ext'; simp
     rw [this]
     exact uponIn_of_next q2 (fun z w' ⟨ρ', g1, g2⟩ => hn z w' ρ' g1 g2)
    ·simp only [FR] at e1
     obtain ⟨B, N, e5, rfl⟩ := e1
     obtain ⟨nx, w1, q1, q2⟩ := happ (F ++ cl.args.toList.map a.eval) hr wf fr (VRs.append e2 hargs) B N e5
     have : (invoke (.fn (.yield B) C.toArray) (F.toArray ++ cl.args.map a.eval)).run c.P w = .ok nx w1 := by
      rw [hA]
      simp only [invoke]
      exact q1
     rw [this]
     exact uponIn_of_next q2 (fun z w' ⟨ρ', g1, g2⟩ => hn z w' ρ' g1 g2)
end
theorem setD_ok {ρ : Map} {e e' : T AV} {h h' : Heap} {sz : Nat} {d : Option Tmp} {v : AV} {z : Value} {a : Act} (er : ER ρ e a.tmps sz) (hv : VR ρ v z) (q : setD e d v sz h = .ok e' h') :
  h' = h ∧ ER ρ e' (a.put d z).tmps sz ∧ (a.put d z).defers = a.defers := by
 unfold setD at q
 cases d with
 | none => cases q; exact ⟨rfl, er, rfl⟩
 | some d =>
  simp only [] at q
  split at q
  ·rename_i hd
   cases q
   have hlt : d < sz := Nat.lt_of_succ_le (bleT hd)
   refine ⟨rfl, ⟨by simp [Act.put, er.1], fun t => ?_⟩, rfl⟩
   rw [get_set]
   simp only [Act.put]
   by_cases ht : t = d
   ·subst ht
    rw [if_pos rfl]
    have : t < a.tmps.size := by rw [er.1]; exact hlt
    simp [Array.getD_eq_getD_getElem?, Array.getElem?_setIfInBounds, this]; exact hv
   ·rw [if_neg ht]
    have := er.2 t
    simpa [Array.getD_eq_getD_getElem?, Array.getElem?_setIfInBounds, Ne.symm ht] using this
  ·cases q
theorem wantA_ok {ρ : Map} {e : T AV} {sz : Nat} {ops : Array Oper} {o : Oper} {tm : Array Value} (er : ER ρ e tm sz) {b : Bool} (q : wantA ops.toList e o = some b) :
  Region.wanted o (yielded ops tm) = b := by
 unfold wantA at q
 unfold Region.wanted
 cases hg : o.guard with
 | none => rw [hg] at q; cases q; rfl
 | some jw =>
  obtain ⟨j, w⟩ := jw
  rw [hg] at q
  simp only [nth_eq] at q ⊢
  unfold yielded
  have hj : ops[j]? = ops.toList[j]? := by simp
  rw [hj]
  cases hp : ops.toList[j]? with
  | none => rw [hp] at q; cases q; rfl
  | some p =>
   rw [hp] at q
   simp only [Option.bind_some] at q ⊢
   cases hd : p.dst with
   | none => rw [hd] at q; cases q; rfl
   | some d =>
    rw [hd] at q
    simp only [Option.bind_some] at q ⊢
    have h1 := er.2 d
    rw [Array.getD_eq_getD_getElem?] at h1
    cases hv : e.get und d <;> rw [hv] at q h1 <;> try (cases q; done)
    ·rename_i bb
     simp only [VR] at h1
     cases q
     cases ht : tm[d]? with
     | none => rw [ht] at h1; simp [undef] at h1
     | some x =>
      rw [ht] at h1; simp at h1; subst h1
      simp only []
      cases bb <;> cases w <;> rfl
    ·simp only [VR] at h1
     obtain ⟨L, _, h1⟩ := h1
     cases q
     cases ht : tm[d]? with
     | none => rfl
     | some x => rw [ht] at h1; simp at h1; subst h1; rfl
section
variable {c : Ctx} (k : CtxOk c) {app : App} (ha : AppOk c app)
include k ha
theorem stepA_ok {ρ : Map} {h h' : Heap} {w : World} (hr : HR ρ h w) (wf : WF h) (fr : FreeUp c ρ h) {ops : Array Oper} {i : Nat} {o : Oper} (hi : ops[i]? = some o) {a : Act} {sz : Nat} {e e' : T AV} (er : ER ρ e a.tmps sz)
  (he : stepA c app sz ops.toList o e h = .ok e' h') {ro : Option Nat} {K : Act → World → Prop} {Q : Exit → Act → World → Prop}
  (hn : ∀ a' w' ρ', Good ρ h w ρ' h' w' → ER ρ' e' a'.tmps sz → a'.defers = a.defers → K a' w') : wpOpIn (wideR ro) 0 c.P ops Q i K a w := by
 unfold stepA at he
 unfold wpOpIn
 rw [hi]
 simp only []
 split at he
 ·cases he
 ·rename_i hw
  rw [if_neg (by rw [wantA_ok er hw]; simp)]
  refine ⟨fun _ _ => trivial, ?_⟩
  obtain ⟨rfl, q2, q3⟩ := setD_ok er (und_ok ρ) he
  exact hn _ _ ρ (Good.refl hr wf) q2 q3
 ·rename_i hw
  rw [if_pos (wantA_ok er hw)]
  cases hop : opA c e h o.op with
  | none => rw [hop] at he; cases he
  | some r =>
   rw [hop] at he
   cases r with
   | v b h1 =>
    simp only [] at he
    obtain ⟨rfl, _, _⟩ : h' = h1 ∧ True ∧ True := by
     unfold setD at he; split at he
     ·cases he; exact ⟨rfl, trivial, trivial⟩
     ·split at he
      ·cases he; exact ⟨rfl, trivial, trivial⟩
      ·cases he
    refine opR_ok k ha hr wf fr er (v := b) (h' := h') (by unfold opR; rw [hop]) fun z w' ρ' g1 g2 => ?_
    obtain ⟨_, q2, q3⟩ := setD_ok (er.mono g1.sub) g2 he
    exact hn _ _ ρ' g1 q2 q3
   | go t args h1 =>
    simp only [] at he
    cases hap : app t args h1 with
    | bad l => rw [hap] at he; cases he
    | ok b h2 =>
     rw [hap] at he
     simp only [] at he
     obtain ⟨rfl, _, _⟩ : h' = h2 ∧ True ∧ True := by
      unfold setD at he; split at he
      ·cases he; exact ⟨rfl, trivial, trivial⟩
      ·split at he
       ·cases he; exact ⟨rfl, trivial, trivial⟩
       ·cases he
     refine opR_ok k ha hr wf fr er (v := b) (h' := h') (by unfold opR; rw [hop]; simp only [hap]) fun z w' ρ' g1 g2 => ?_
     obtain ⟨_, q2, q3⟩ := setD_ok (er.mono g1.sub) g2 he
     exact hn _ _ ρ' g1 q2 q3
omit k ha in
theorem runOps_cons (c : Ctx) (app : App) (sz : Nat) (ops : List Oper) (o : Oper) (l : List Oper) (e : T AV) (h : Heap) :
  runOps c app sz ops (o :: l) e h = match stepA c app sz ops o e h with | .ok e' h' => runOps c app sz ops l e' h' | .bad l => .bad l := rfl
theorem runOps_ok {ops : Array Oper} {sz : Nat} {ro : Option Nat} {Q : Exit → Act → World → Prop} : ∀ (is : List Nat) (l : List Oper), is.map (fun i => ops[i]?) = l.map some →
  ∀ {ρ : Map} {h h' : Heap} {w : World} (hr : HR ρ h w) (wf : WF h) (fr : FreeUp c ρ h) {a : Act} {e e' : T AV} (er : ER ρ e a.tmps sz)
  (he : runOps c app sz ops.toList l e h = .ok e' h')
  (hn : ∀ a' w' ρ', Good ρ h w ρ' h' w' → ER ρ' e' a'.tmps sz → a'.defers = a.defers → Q .normal a' w'), wpOpsIn (wideR ro) 0 c.P ops Q is a w := by
 intro is
 induction is with
 | nil =>
  intro l hl ρ h h' w hr wf fr a e e' er he hn
  cases l with
  | nil => cases he; exact hn a w ρ (Good.refl hr wf) er rfl
  | cons o l => simp at hl
 | cons i is ih =>
  intro l hl ρ h h' w hr wf fr a e e' er he hn
  cases l with
  | nil => simp at hl
  | cons o l =>
   simp only [List.map_cons, List.cons.injEq] at hl
   rw [wpOpsIn_cons]
   rw [runOps_cons c app] at he
   cases hs : stepA c app sz ops.toList o e h with
   | bad l => rw [hs] at he; cases he
   | ok e1 h1 =>
    rw [hs] at he
    refine stepA_ok k ha hr wf fr hl.1 er hs fun a1 w1 ρ1 g1 er1 d1 => ?_
    exact ih l hl.2 g1.hr g1.wf (g1.up fr) er1 he fun a2 w2 ρ2 g2 er2 d2 => hn a2 w2 ρ2 (g1.trans g2) er2 (d2.trans d1)
end
end Go.Px
end
section
namespace Go.Px
theorem natsEqB_eq : ∀ {a b : List Nat}, natsEqB a b = true → a = b
  | [], [], _ => rfl
  | [], _ :: _, h => by cases h
  | _ :: _, [], h => by cases h
  | x :: a, y :: b, h => by
    have h' : (match Nat.beq x y with | true => natsEqB a b | false => false) = true := h
    split at h'
    · rename_i hxy; rw [beqT hxy, natsEqB_eq h']
    · cases h'
theorem optEqN_eq {a b : Option Nat} (h : optEqN a b = true) : a = b := by
  unfold optEqN at h
  cases a with
  | none => cases b with
    | none => rfl
    | some y => cases h
  | some x => cases b with
    | none => cases h
    | some y => rw [beqT h]
theorem avEq0_eq {a b : AV} (h : avEq0 a b = true) : a = b := by
  cases a <;> cases b <;> first
    | (cases h; done)
    | rfl
    | skip
  case bool.bool x y => cases x <;> cases y <;> first | rfl | cases h
  case int.int k x j y =>
    simp only [avEq0] at h
    split at h
    · rename_i hk
      have := (ikEq_eq _ _).1 hk
      rw [ieq_eq] at h
      simp at h
      subst this; subst h; rfl
    · cases h
  case str.str x y => rw [natsEqB_eq (a := x) (b := y) h]
  case ptr.ptr i o j p =>
    simp only [avEq0] at h
    split at h
    · rename_i hi; rw [beqT hi, beqT h]
    · cases h
  case gptr.gptr i o j p =>
    simp only [avEq0] at h
    split at h
    · rename_i hi; rw [beqT hi, beqT h]
    · cases h
  case sl.sl i o l k z i' o' l' k' z' =>
    simp only [avEq0] at h
    split at h
    · rename_i hi
      split at h
      · rename_i ho
        split at h
        · rename_i hl
          split at h
          · rename_i hz; rw [beqT hi, beqT ho, beqT hl, beqT hz, optEqN_eq h]
          · cases h
        · cases h
      · cases h
    · cases h
  case esl.esl i j => rw [beqT (a := i) (b := j) h]
  case mp.mp i j => rw [beqT (a := i) (b := j) h]
theorem avsEq_eq : ∀ {a b : List AV}, avsEq a b = true → a = b
  | [], [], _ => rfl
  | [], y :: b, h => by cases h
  | x :: a, [], h => by cases h
  | x :: a, y :: b, h => by
    have h' : (match avEq0 x y with | true => avsEq a b | false => false) = true := h
    split at h'
    · rename_i hxy; rw [avEq0_eq hxy, avsEq_eq h']
    · cases h'
theorem fnEq_eq {f g : Fn} (h : fnEq f g = true) : f = g := by
  unfold fnEq at h
  split at h
  · split at h
    · rw [beqT h]
    · cases h
  · split at h
    · rw [beqT h]
    · cases h
  · cases h
theorem avEq_eq {a b : AV} (h : avEq a b = true) : a = b := by
  unfold avEq at h
  split at h
  · split at h
    · split at h
      · rename_i hi; rw [beqT hi, avEq0_eq h]
      · cases h
    · cases h
  · split at h
    · rw [avsEq_eq h]
    · cases h
  · split at h
    · rw [avsEq_eq h]
    · cases h
  · split at h
    · split at h
      · rename_i hf
        split at h
        · rename_i hl
          rw [fnEq_eq hf, avsEq_eq hl, avsEq_eq h]
        · cases h
      · cases h
    · cases h
  · exact avEq0_eq h
/-! ## a heap that says less -/
def RowSame (r s : Row) : Prop := r.t = s.t ∧ r.n = s.n ∧ ∀ j, j < r.n → r.get j = s.get j
theorem RowSame.refl (r : Row) : RowSame r r := ⟨rfl, rfl, fun _ _ => rfl⟩
def RowLe (r s : Row) : Prop := r.t = s.t ∧ r.n = s.n ∧ ∀ j, j < r.n → ∀ ρ x, VR ρ (s.get j) x → VR ρ (r.get j) x
theorem RowSame.le {r s : Row} (h : RowSame r s) : RowLe r s := ⟨h.1, h.2.1, fun j hj ρ x q => by rw [h.2.2 j hj]; exact q⟩
theorem RowOk.le {ρ : Map} {r s : Row} {B N : Nat} {w : World} (h : RowOk ρ s B N w) (e : RowLe r s) : RowOk ρ r B N w :=
  ⟨by rw [e.1]; exact h.1, by rw [e.2.1]; exact h.2.1, h.2.2.1, fun j hj => by
    obtain ⟨v, v1, v2⟩ := h.2.2.2 j (by rw [← e.2.1]; exact hj)
    exact ⟨v, v1, e.2.2 j hj _ _ v2⟩⟩
def BlkLe (g h : Heap) (i : Nat) : Prop :=
  (g.get i = .none ∧ ∀ s q, h.get i = .row s → s.root = some q → g.tip q = none) ∨
  g.get i = h.get i ∨
  ∃ r s, g.get i = .row r ∧ h.get i = .row s ∧ RowLe r s ∧ (r.root = s.root ∨ (r.root = none ∧ ∃ q, s.root = some q ∧ g.tip q = none ∧ h.tip q = some i))
structure Weak0 (g h : Heap) : Prop where
  nxt : g.nxt = h.nxt
  blk : ∀ i, BlkLe g h i
  tip : ∀ q, g.tip q = none ∨ g.tip q = h.tip q
structure Weak (g h : Heap) : Prop where
  low : Weak0 g h
  gl : ∀ i r, h.get i = .gl r → g.get i = .gl r
theorem Weak0.okb {g h : Heap} (w : Weak0 g h) {i : Nat} (o : g.ok i) : h.ok i := by
  unfold Heap.ok at o ⊢
  rcases w.blk i with ⟨e, _⟩ | e | ⟨r, s, e1, e2, _, e3⟩
  · rw [e] at o; exact o.elim
  · rw [e] at o
    cases hb : h.get i with
    | row x =>
      rw [hb] at o
      simp only [] at o ⊢
      rw [Heap.row_of (e.trans hb)] at o
      rw [Heap.row_of hb]
      cases hx : x.root with
      | none => simp
      | some q =>
        rw [hx] at o
        simp only [] at o ⊢
        rcases w.tip q with t | t
        · rw [t] at o; cases o
        · rw [t] at o; exact o
    | _ => simp_all
  · rw [e1] at o
    rw [e2]
    simp only [] at o ⊢
    rw [Heap.row_of e1] at o
    rw [Heap.row_of e2]
    rcases e3 with e3 | ⟨e3, q, e4, e5, e6⟩
    · rw [e3] at o
      cases hx : s.root with
      | none => simp
      | some q =>
        rw [hx] at o
        simp only [] at o ⊢
        rcases w.tip q with t | t
        · rw [t] at o; cases o
        · rw [t] at o
          cases ht : h.tip q with
          | none => rw [ht] at o; cases o
          | some y => rfl
    · rw [e4]; simp only [e6]; rfl
theorem Weak0.hr {g h : Heap} (w : Weak0 g h) {ρ : Map} {wd : World} (hr : HR ρ h wd) : HR ρ g wd := by
  refine ⟨hr.lt, fun i B N e o => ?_, fun i j B N M hij e1 e2 o1 o2 => ?_, fun i r e => ?_, hr.fz, fun i B N e o => ?_, fun i t z n l e => ?_⟩
  · have h1 := hr.ok i B N e (w.okb o)
    rcases w.blk i with ⟨e', _⟩ | e' | ⟨r, s, a1, a2, a3, _⟩
    · rw [e']; trivial
    · rw [e']; exact h1
    · rw [a1]; rw [a2] at h1; exact RowOk.le h1 a3
  · obtain ⟨r, s, q, a, b, c, d⟩ := hr.inj i j B N M hij e1 e2 (w.okb o1) (w.okb o2)
    have keep : ∀ i r, h.get i = .row r → r.root = some q → g.ok i → (∃ r', g.get i = .row r' ∧ r'.root = some q) ∨ (g.tip q = none ∧ h.tip q = some i) := fun i r a c o => by
      rcases w.blk i with ⟨e', _⟩ | e' | ⟨x, y, a1, a2, a3, a4⟩
      · unfold Heap.ok at o; rw [e'] at o; exact o.elim
      · exact .inl ⟨r, e'.trans a, c⟩
      · rw [a] at a2; cases a2
        rcases a4 with a4 | ⟨_, q', b1, b2, b3⟩
        · exact .inl ⟨x, a1, a4.trans c⟩
        · rw [c] at b1; cases b1; exact .inr ⟨b2, b3⟩
    have alive : ∀ i r', g.get i = .row r' → r'.root = some q → g.ok i → g.tip q ≠ none := fun i r' a c o z => by
      unfold Heap.ok at o
      rw [a] at o
      simp only [] at o
      rw [Heap.row_of a, c] at o
      simp only [z] at o
      cases o
    rcases keep i r a c o1 with ⟨r', a', c'⟩ | ⟨t1, t2⟩
    · rcases keep j s b d o2 with ⟨s', b', d'⟩ | ⟨t1, t2⟩
      · exact ⟨r', s', q, a', b', c', d'⟩
      · exact absurd t1 (alive i r' a' c' o1)
    · rcases keep j s b d o2 with ⟨s', b', d'⟩ | ⟨t3, t4⟩
      · exact absurd t1 (alive j s' b' d' o2)
      · rw [t2] at t4; cases t4; exact absurd rfl hij
  · rcases w.blk i with ⟨e', _⟩ | e' | ⟨r', s, a1, _⟩
    · rw [e'] at e; cases e
    · exact hr.gl i r (e'.symm.trans e)
    · rw [a1] at e; cases e
  · rcases hr.sep i B N e (w.okb o) with q | ⟨r, q⟩
    · exact .inl q
    · rcases w.blk i with ⟨e', _⟩ | e' | ⟨r', s, a1, a2, _⟩
      · unfold Heap.ok at o; rw [e'] at o; exact o.elim
      · exact .inr ⟨r, e'.trans q⟩
      · rw [q] at a2; cases a2
  · rcases w.blk i with ⟨e', _⟩ | e' | ⟨r', s, a1, _⟩
    · rw [e'] at e; cases e
    · exact hr.av i t z n l (e'.symm.trans e)
    · rw [a1] at e; cases e
theorem Weak0.wf {g h : Heap} (w : Weak0 g h) (wf : WF h) : WF g := by
  have root : ∀ i r q, g.get i = .row r → r.root = some q → ∃ s, h.get i = .row s ∧ s.root = some q ∧ r.n = s.n := fun i r q a b => by
    rcases w.blk i with ⟨e, _⟩ | e | ⟨r', s, a1, a2, a3, a4⟩
    · rw [e] at a; cases a
    · exact ⟨r, e.symm.trans a, b, rfl⟩
    · rw [a1] at a; cases a
      rcases a4 with a4 | ⟨a4, _⟩
      · exact ⟨s, a2, a4.symm.trans b, a3.2.1⟩
      · rw [a4] at b; cases b
  refine ⟨fun i hi => ?_, fun i r q a b => ?_, fun i r q t a b c => ?_, fun q hq => ?_⟩
  · have h1 := wf.fresh i (by rw [← w.nxt]; exact hi)
    rcases w.blk i with ⟨e, _⟩ | e | ⟨r, s, _, a2, _⟩
    · exact e
    · rw [e]; exact h1
    · rw [h1] at a2; cases a2
  · obtain ⟨s, s1, s2, _⟩ := root i r q a b
    rw [w.nxt]; exact wf.root i s q s1 s2
  · obtain ⟨s, s1, s2, s3⟩ := root i r q a b
    have ht : h.tip q = some t := by
      rcases w.tip q with z | z
      · rw [z] at c; cases c
      · rw [← z]; exact c
    obtain ⟨y, y1, y2, y3⟩ := wf.tip i s q t s1 s2 ht
    rcases w.blk t with ⟨_, e⟩ | e | ⟨x, z, a1, a2, a3, a4⟩
    · rw [e y q y1 y2] at c; cases c
    · exact ⟨y, e.trans y1, y2, by omega⟩
    · rw [y1] at a2; cases a2
      rcases a4 with a4 | ⟨_, q', b1, b2, _⟩
      · exact ⟨x, a1, a4.trans y2, by have := a3.2.1; omega⟩
      · rw [y2] at b1; cases b1; rw [b2] at c; cases c
  · have := wf.tipr q (by rw [← w.nxt]; exact hq)
    rcases w.tip q with z | z
    · exact z
    · rw [z]; exact this
theorem Good.weak0 {ρ ρ' : Map} {h h' g : Heap} {w w' : World} (a : Good ρ h w ρ' h' w') (k : Weak0 g h') (hgl : ∀ i r, h.get i = .gl r → g.get i = .gl r) : Good ρ h w ρ' g w' :=
  { sub := a.sub, hr := k.hr a.hr, wf := k.wf a.wf, nxt := by rw [k.nxt]; exact a.nxt, dom := by rw [k.nxt]; exact a.dom, full := by rw [k.nxt]; exact a.full,
    same := a.same, frame := a.frame, dead := fun i q1 q2 q3 => a.dead i (by rw [← k.nxt]; exact q1) q2 (k.okb q3), newb := a.newb, free := (by rw [k.nxt]; exact a.free), gl := hgl, glw := a.glw, fold := a.fold, V := a.V }
theorem Good.weak {ρ ρ' : Map} {h h' g : Heap} {w w' : World} (a : Good ρ h w ρ' h' w') (k : Weak g h') : Good ρ h w ρ' g w' := a.weak0 k.low fun i r q => k.gl i r (a.gl i r q)
/-! ## a world that has grown -/
theorem HR.ext {ρ : Map} {h : Heap} {w w' : World} (hr : HR ρ h w) (hs : w.heap.size ≤ w'.heap.size) (hb : ∀ B, B < w.heap.size → w'.heap[B]? = w.heap[B]?) : HR ρ h w' :=
  ⟨fun i B N e => Nat.lt_of_lt_of_le (hr.lt i B N e) hs, fun i B N e o => (hr.ok i B N e o).block (hb B (hr.lt i B N e)), hr.inj, hr.gl, hr.fz_of fun B q _ => hb B q, hr.sep, hr.av⟩
theorem Good.ext {ρ ρ' : Map} {h h' : Heap} {w w' w2 : World} (g : Good ρ h w ρ' h' w') (s : Same w' w2) (hb : ∀ B, B < w'.heap.size → w2.heap[B]? = w'.heap[B]?) : Good ρ h w ρ' h' w2 :=
  { g with hr := g.hr.ext s.size hb, same := g.same.trans s, frame := fun b hlt hn => by rw [hb b (Nat.lt_of_lt_of_le hlt g.same.size)]; exact g.frame b hlt hn, glw := fun i r q => (by obtain ⟨M, hM⟩ := g.hr.gl i r (g.gl i r q); rw [hb i (g.hr.lt i i M hM)]; exact g.glw i r q) }
theorem HR.frz {ρ : Map} {h : Heap} {w w' : World} (hr : HR ρ h w) (hs : w.heap.size ≤ w'.heap.size) (hb : ∀ B, B < w.heap.size → w'.heap[B]? = w.heap[B]?) {F : Nat → List Value}
    (h1 : ∀ (b j : Nat) (x : Value), (ρ.F b)[j]? = some x → (F b)[j]? = some x) (h2 : ∀ b, b < w.heap.size → F b = ρ.F b) (h3 : ∀ B j x, (F B)[j]? = some x → w'.cell? ⟨B, j, none⟩ = some x) : HR ⟨ρ.m, F, ρ.V⟩ h w' := by
  have hsub : Sub ρ ⟨ρ.m, F, ρ.V⟩ := ⟨fun _ _ e => e, h1, fun _ _ _ e => e⟩
  refine ⟨fun i B N e => Nat.lt_of_lt_of_le (hr.lt i B N e) hs, fun i B N e o => ((hr.ok i B N e o).block (hb B (hr.lt i B N e))).mono hsub, hr.inj, hr.gl, h3, fun i B N e o => ?_, fun k t z n l e => (hr.av k t z n l e).mono hsub⟩
  show F B = [] ∨ _
  rw [h2 B (hr.lt i B N e)]
  exact hr.sep i B N e o
theorem Good.frz {ρ ρ' : Map} {h h' : Heap} {w w' w2 : World} (g : Good ρ h w ρ' h' w') (s : Same w' w2) (hb : ∀ B, B < w'.heap.size → w2.heap[B]? = w'.heap[B]?) {F : Nat → List Value}
    (h1 : ∀ (b j : Nat) (x : Value), (ρ'.F b)[j]? = some x → (F b)[j]? = some x) (h2 : ∀ b, b < w'.heap.size → F b = ρ'.F b) (h3 : ∀ B j x, (F B)[j]? = some x → w2.cell? ⟨B, j, none⟩ = some x) : Good ρ h w ⟨ρ'.m, F, ρ'.V⟩ h' w2 :=
  { g.ext s hb with
    sub := g.sub.trans ⟨fun _ _ e => e, h1, fun _ _ _ e => e⟩, hr := g.hr.frz s.size hb h1 h2 h3
    fold := fun b hlt hn => (h2 b (Nat.lt_of_lt_of_le hlt g.same.size)).trans (g.fold b hlt hn) }
/-! ## the log does not matter -/
theorem HR.unlog {ρ : Map} {h : Heap} {w : World} (hr : HR ρ h w) : HR ρ h.unlog w := ⟨hr.lt, hr.ok, hr.inj, hr.gl, hr.fz, hr.sep, hr.av⟩
theorem WF.unlog {h : Heap} (wf : WF h) : WF h.unlog := ⟨wf.fresh, wf.root, wf.tip, wf.tipr⟩
theorem Good.ofUnlog {ρ ρ' : Map} {h h' : Heap} {w w' : World} (a : Good ρ h.unlog w ρ' h' w') : Good ρ h w ρ' h' w' :=
  ⟨a.sub, a.hr, a.wf, a.nxt, a.dom, a.full, a.same, a.frame, a.dead, a.newb, a.free, a.gl, a.glw, a.fold, a.V⟩
/-! ## what was written is logged -/
def Logged (h h' : Heap) : Prop := ∃ l, h'.log = l ++ h.log ∧ ∀ i, i ∉ l → h'.get i = h.get i ∧ h'.tip i = h.tip i
theorem Logged.refl (h : Heap) : Logged h h := ⟨[], rfl, fun _ _ => ⟨rfl, rfl⟩⟩
theorem Logged.trans {a b c : Heap} (x : Logged a b) (y : Logged b c) : Logged a c := by
  obtain ⟨l, l1, l2⟩ := x
  obtain ⟨m, m1, m2⟩ := y
  refine ⟨m ++ l, by rw [m1, l1, List.append_assoc], fun i hi => ?_⟩
  simp only [List.mem_append, not_or] at hi
  exact ⟨(m2 i hi.1).1.trans (l2 i hi.2).1, (m2 i hi.1).2.trans (l2 i hi.2).2⟩
theorem Logged.put (h : Heap) (i : Nat) (b : AB) : Logged h (h.put i b) :=
  ⟨[i], rfl, fun j hj => ⟨by rw [Heap.get_put, if_neg (by simpa using hj)], rfl⟩⟩
theorem Logged.new (h : Heap) (b : AB) : Logged h (h.new b) :=
  ⟨[h.nxt], rfl, fun j hj => ⟨by rw [Heap.get_new, if_neg (by simpa using hj)], rfl⟩⟩
theorem Logged.mine {h h' : Heap} {i : Nat} {r : Row} (e : h.mine i = some (r, h')) : Logged h h' := by
  unfold Heap.mine at e
  split at e
  · split at e
    · cases e; exact Logged.refl h
    · rename_i q hq
      split at e
      · split at e
        · cases e
          refine ⟨[q], rfl, fun j hj => ⟨rfl, ?_⟩⟩
          show T.get _ (T.set _ _ _ _) j = _
          rw [get_set_ne _ _ (by simpa using hj)]; rfl
        · cases e
      · cases e
  · cases e
theorem Logged.grownTip (h : Heap) (id : Nat) (r : Row) (q m z : Nat) (cs : List AV) : Logged h (grownTip h id r q m z cs) := by
  refine ⟨[id, h.nxt, q], rfl, fun j hj => ?_⟩
  simp only [List.mem_cons, List.not_mem_nil, or_false, not_or] at hj
  refine ⟨?_, ?_⟩
  · show T.get _ (T.set _ _ _ _) j = _
    rw [get_set_ne _ _ hj.2.1, get_set_ne _ _ hj.1]; rfl
  · show T.get _ (T.set _ _ _ _) j = _
    rw [get_set_ne _ _ hj.2.2]; rfl
theorem Logged.wCells {h h' : Heap} {id off : Nat} {l : List AV} (e : wCells h id off l = some h') : Logged h h' := by
  unfold Px.wCells at e
  split at e
  · rename_i r h1 hm
    split at e
    · split at e
      · cases e; exact (Logged.mine hm).trans (Logged.put _ _ _)
      · cases e
    · cases e
  · cases e
theorem Logged.newRow (h : Heap) (t : TypeId) (n : Nat) (c : T (Option AV)) (p : List AV) : Logged h (newRow h t n c p) := Logged.new h _
theorem Logged.box {h h' : Heap} {t : TypeId} {a v : AV} (e : oBox h t a = some (v, h')) : Logged h h' := by
  unfold oBox at e
  cases a <;> simp at e <;> (obtain ⟨_, rfl⟩ := e; exact Logged.newRow _ _ _ _ _)
theorem Logged.growNew {h h' : Heap} {e : TypeId} {z n : Nat} {cs : List AV} {v : AV} (q : growNew h e z n cs = some (v, h')) : Logged h h' := by
  unfold Px.growNew at q
  split at q
  · cases q; exact Logged.newRow _ _ _ _ _
  · cases q
theorem Logged.cutRow {h h' : Heap} {id k : Nat} {r : Row} (e : cutRow h id k = some (r, h')) : Logged h h' := by
  unfold Px.cutRow at e
  split at e
  · cases e
  · rename_i h1 hw
    split at e
    · split at e
      · split at e
        · cases e; exact (Logged.wCells hw).trans (Logged.put _ _ _)
        · cases e
      · cases e
    · cases e
theorem Logged.tipGrow {h h' : Heap} {e : TypeId} {id off len z m : Nat} {cs : List AV} {r : Row} {v : AV} (q : tipGrow h e id off len z m cs r = some (v, h')) : Logged h h' := by
  unfold Px.tipGrow at q
  repeat' (split at q)
  all_goals first
    | (cases q; done)
    | (cases q; exact Logged.grownTip _ _ _ _ _ _ _)
theorem Logged.appCells {h h' : Heap} {e : TypeId} {z m : Nat} {cs : List AV} {s v : AV} (q : appCells h e z m cs s = some (v, h')) : Logged h h' := by
  unfold Px.appCells at q
  split at q
  · split at q
    · cases q; exact Logged.refl h
    · exact Logged.growNew q
  · split at q
    · cases q; exact Logged.refl h
    · exact Logged.growNew q
  · split at q
    · cases q
    · split at q
      · cases q; exact Logged.refl h
      · unfold appSl at q
        split at q
        · split at q
          · split at q
            · rename_i h1 hw; cases q; exact Logged.wCells hw
            · cases q
          · split at q
            · split at q
              · exact Logged.growNew q
              · cases q
            · cases q
        · split at q
          · split at q
            · split at q
              · rename_i h1 hw; cases q; exact Logged.wCells hw
              · cases q
            · split at q
              · exact Logged.tipGrow q
              · split at q
                · rename_i r' h1 hc
                  exact (Logged.cutRow hc).trans (Logged.tipGrow q)
                · cases q
          · cases q
  · cases q
theorem unit_inv {h' : Heap} {r : Option Heap} {v : AV} (e : unit r = some (.v v h')) : r = some h' := (unit_eq e).1
theorem Logged.wOwn {h h' : Heap} {k n off : Nat} {cs : List AV} (q : wOwn h k n off cs = some h') : Logged h h' := by
  unfold Px.wOwn at q
  repeat' (split at q)
  all_goals first | (cases q; done) | (cases q; exact Logged.put _ _ _)
theorem Logged.opA {c : Ctx} {e : T AV} {h h' : Heap} {o : Op} {v : AV} (hc : calmOp o = true) (q : opA c e h o = some (.v v h')) : Logged h h' := by
  cases o <;> simp only [calmOp] at hc <;> try (cases hc; done)
  case move x => simp only [Px.opA] at q; cases q; exact Logged.refl _
  case assign x => simp only [Px.opA] at q; cases q; exact Logged.refl _
  case alloc t =>
    simp only [Px.opA] at q
    have q := valH_eq q
    unfold oAlloc at q
    split at q
    · exact Logged.box q
    · cases q
  case build t ps => simp only [Px.opA] at q; obtain ⟨_, rfl⟩ := val_eq q; exact Logged.refl _
  case buildSlice t n ps =>
    simp only [Px.opA] at q
    have q := valH_eq q
    unfold oBuildSlice at q
    repeat' (split at q)
    all_goals first | (cases q; done) | (cases q; exact Logged.newRow _ _ _ _ _)
  case load t x => simp only [Px.opA] at q; obtain ⟨_, rfl⟩ := val_eq q; exact Logged.refl _
  case store t x y =>
    simp only [Px.opA] at q
    have q := unit_inv q
    unfold oStore at q
    repeat' (split at q)
    all_goals first | (cases q; done) | exact Logged.wCells q | exact Logged.wOwn q
  case nilCheck x => simp only [Px.opA] at q; obtain ⟨_, rfl⟩ := val_eq q; exact Logged.refl _
  case binOp op t x y u => simp only [Px.opA] at q; obtain ⟨_, rfl⟩ := val_eq q; exact Logged.refl _
  case unOp op t x => simp only [Px.opA] at q; obtain ⟨_, rfl⟩ := val_eq q; exact Logged.refl _
  case slice t x lo hi mx => simp only [Px.opA] at q; obtain ⟨_, rfl⟩ := val_eq q; exact Logged.refl _
  case fieldAddr t x i => simp only [Px.opA] at q; obtain ⟨_, rfl⟩ := val_eq q; exact Logged.refl _
  case field t x i => simp only [Px.opA] at q; obtain ⟨_, rfl⟩ := val_eq q; exact Logged.refl _
  case indexAddr t x i => simp only [Px.opA] at q; obtain ⟨_, rfl⟩ := val_eq q; exact Logged.refl _
  case call k =>
    cases hk : k.callee with
    | value f => rw [hk] at hc; cases hc
    | invoke r m => rw [hk] at hc; cases hc
    | builtin b =>
      rw [hk] at hc
      simp only [Px.opA, oCall, hk] at q
      cases b <;> simp only [] at hc <;> try (cases hc; done)
      case append =>
        simp only [oBuiltin] at q
        repeat' (split at q)
        all_goals first
          | (cases q; done)
          | (rename_i hu; cases q; unfold oAppendZ at hu; repeat' (split at hu)
             all_goals first | (cases hu; done) | exact Logged.appCells hu)
          | (rename_i hu; cases q; unfold oAppend at hu; repeat' (split at hu)
             all_goals first | (cases hu; done) | exact Logged.appCells hu)
      case len =>
        simp only [oBuiltin] at q
        repeat' (split at q)
        all_goals first
          | (cases q; done)
          | (cases q; exact Logged.refl _)
theorem calm_noGo {c : Ctx} {e : T AV} {h h' : Heap} {o : Op} {t : Tgt} {l : List AV} (hc : calmOp o = true) (q : opA c e h o = some (.go t l h')) : False := by
  cases o <;> simp only [calmOp] at hc <;> try (cases hc; done)
  case call k =>
    cases hk : k.callee with
    | value f => rw [hk] at hc; cases hc
    | invoke r m => rw [hk] at hc; cases hc
    | builtin b =>
      simp only [Px.opA, oCall, hk] at q
      unfold oBuiltin at q
      repeat' (split at q)
      all_goals cases q
  all_goals
    simp only [Px.opA] at q
    first
      | (cases q; done)
      | (unfold val at q; split at q <;> cases q)
      | (unfold valH at q; split at q <;> cases q)
      | (unfold Px.unit at q; split at q <;> cases q)
end Go.Px
end
section
namespace Go.Px
/-! ## rows and blocks, joined -/
theorem cellsEq_ok {r s : Row} : ∀ {n : Nat}, cellsEq r s n = true → ∀ j, j < n → r.get j = s.get j
 | 0, _, j, hj => by omega
 | n + 1, h, j, hj => by
  have h' : (match avEq (r.get n) (s.get n) with | true => cellsEq r s n | false => false) = true := h
  split at h'
  ·rename_i hq
   by_cases e : j = n
   ·subst e; exact avEq_eq hq
   ·exact cellsEq_ok h' j (by omega)
  ·cases h'
theorem rowEq_ok {r s : Row} (h : rowEq r s = true) : RowSame r s := by
 unfold rowEq at h
 split at h
 ·cases h
 ·rename_i ht
  split at h
  ·cases h
  ·rename_i hn
   exact ⟨beqT ht, beqT hn, cellsEq_ok h⟩
theorem RowSame.symm {r s : Row} (h : RowSame r s) : RowSame s r := ⟨h.1.symm, h.2.1.symm, fun j hj => (h.2.2 j (by rw [h.2.1]; exact hj)).symm⟩
theorem aloneOk_ok {x y : Option Nat} {i : Nat} (h : aloneOk x y i = true) : x = none ∧ y = some i := by
 unfold aloneOk at h
 cases x with
 | some a => cases h
 | none =>
  refine ⟨rfl, ?_⟩
  simp only [isNoneN] at h
  cases y with
  | none => cases h
  | some t => rw [beqT h]
theorem tipJoin_ok (x y : Option Nat) : tipJoin x y = none ∨ (tipJoin x y = x ∧ x = y) := by
 unfold tipJoin
 cases h : optEqN x y with
 | false => exact .inl rfl
 | true => exact .inr ⟨rfl, optEqN_eq h⟩
theorem joinL_spec {a b : Heap} : ∀ {l : List Nat} {h g : Heap}, joinL a b l h = some g →
  g.nxt = h.nxt ∧ (∀ i, i ∈ l → abJoin a b i (a.get i) (b.get i) = some (g.get i) ∧ g.tip i = tipJoin (a.tip i) (b.tip i)) ∧ (∀ i, i ∉ l → g.get i = h.get i ∧ g.tip i = h.tip i)
 | [], h, g, e => by cases e; exact ⟨rfl, fun i hi => (by cases hi), fun _ _ => ⟨rfl, rfl⟩⟩
 | i :: l, h, g, e => by
  have e' : (match abJoin a b i (a.get i) (b.get i) with
   | some x => joinL a b l ⟨h.nxt, h.blk.set .none i x, h.tips.set none i (tipJoin (a.tip i) (b.tip i)), i :: h.log⟩
   | none => none) = some g := e
  split at e'
  ·rename_i x hx
   obtain ⟨h1, h2, h3⟩ := joinL_spec e'
   have gi : ∀ j, (⟨h.nxt, h.blk.set .none i x, h.tips.set none i (tipJoin (a.tip i) (b.tip i)), i :: h.log⟩ : Heap).get j = if j = i then x else h.get j := fun j => get_set _ _ _ _ _
   have ti : ∀ j, (⟨h.nxt, h.blk.set .none i x, h.tips.set none i (tipJoin (a.tip i) (b.tip i)), i :: h.log⟩ : Heap).tip j = if j = i then tipJoin (a.tip i) (b.tip i) else h.tip j := fun j => get_set _ _ _ _ _
   refine ⟨h1, fun j hj => ?_, fun j hj => ?_⟩
   ·by_cases hl : j ∈ l
    ·exact h2 j hl
    ·rcases List.mem_cons.1 hj with rfl | hj
     ·obtain ⟨q1, q2⟩ := h3 j hl
      rw [gi, if_pos rfl] at q1
      rw [ti, if_pos rfl] at q2
      exact ⟨by rw [q1]; exact hx, q2⟩
     ·exact absurd hj hl
   ·simp only [List.mem_cons, not_or] at hj
    obtain ⟨q1, q2⟩ := h3 j hj.2
    rw [gi, if_neg hj.1] at q1
    rw [ti, if_neg hj.1] at q2
    exact ⟨q1, q2⟩
  ·cases e'
theorem joinH_weak {h a b g : Heap} (la : Logged h.unlog a) (lb : Logged h.unlog b) (e : joinH h a b = some g) : Weak g a ∧ Weak g b := by
 unfold joinH at e
 split at e
 ·rename_i hn
  have hn := beqT hn
  obtain ⟨h1, h2, h3⟩ := joinL_spec e
  obtain ⟨l1, a1, a2⟩ := la
  obtain ⟨l2, b1, b2⟩ := lb
  have al : a.log = l1 := by rw [a1]; simp [Heap.unlog]
  have bl : b.log = l2 := by rw [b1]; simp [Heap.unlog]
  have far : ∀ i, i ∉ a.log ++ b.log → g.get i = a.get i ∧ g.get i = b.get i ∧ g.tip i = a.tip i ∧ g.tip i = b.tip i := fun i hi => by
   obtain ⟨q1, q2⟩ := h3 i hi
   simp only [List.mem_append, not_or, al, bl] at hi
   obtain ⟨r1, r2⟩ := a2 i hi.1
   obtain ⟨s1, s2⟩ := b2 i hi.2
   exact ⟨q1.trans r1.symm, q1.trans s1.symm, q2.trans r2.symm, q2.trans s2.symm⟩
  have tips : ∀ q, g.tip q = none ∨ (g.tip q = a.tip q ∧ g.tip q = b.tip q) := fun q => by
   by_cases hq : q ∈ a.log ++ b.log
   ·rw [(h2 q hq).2]
    rcases tipJoin_ok (a.tip q) (b.tip q) with t | ⟨t, t2⟩
    ·exact .inl t
    ·exact .inr ⟨t, t.trans t2⟩
   ·exact .inr ⟨(far q hq).2.2.1, (far q hq).2.2.2⟩
  have tnone : ∀ q, a.tip q = none ∨ b.tip q = none → g.tip q = none := fun q hq => by
   rcases tips q with t | ⟨t1, t2⟩
   ·exact t
   ·rcases hq with hq | hq
    ·rw [t1]; exact hq
    ·rw [t2]; exact hq
  have key : ∀ i, BlkLe g a i ∧ BlkLe g b i := fun i => by
   by_cases hi : i ∈ a.log ++ b.log
   ·have hj := (h2 i hi).1
    unfold abJoin at hj
    split at hj
    ·rename_i hga
     split at hj
     ·rename_i hgb
      have hg : g.get i = .none := (Option.some.inj hj).symm
      exact ⟨.inl ⟨hg, fun s q q1 => by rw [hga] at q1; cases q1⟩, .inl ⟨hg, fun s q q1 => by rw [hgb] at q1; cases q1⟩⟩
     ·rename_i s hgb
      split at hj
      ·rename_i hsr
       have hg : g.get i = .none := (Option.some.inj hj).symm
       exact ⟨.inl ⟨hg, fun s q q1 => by rw [hga] at q1; cases q1⟩, .inl ⟨hg, fun s' q q1 q2 => by rw [hgb] at q1; cases q1; rw [hsr] at q2; cases q2⟩⟩
      ·cases hj
     ·cases hj
    ·rename_i r hga
     split at hj
     ·rename_i s hgb
      unfold rowJoin at hj
      split at hj
      ·rename_i hre
       have hs := rowEq_ok hre
       split at hj
       ·rename_i hr
        split at hj
        ·rename_i hsr
         have hg : g.get i = .row r := (Option.some.inj hj).symm
         exact ⟨.inr (.inr ⟨r, r, hg, hga, (RowSame.refl r).le, .inl rfl⟩), .inr (.inr ⟨r, s, hg, hgb, hs.le, .inl (by rw [hr, hsr])⟩)⟩
        ·rename_i q hsr
         split at hj
         ·rename_i hal
          obtain ⟨t1, t2⟩ := aloneOk_ok hal
          have hg : g.get i = .row r := (Option.some.inj hj).symm
          exact ⟨.inr (.inr ⟨r, r, hg, hga, (RowSame.refl r).le, .inl rfl⟩), .inr (.inr ⟨r, s, hg, hgb, hs.le, .inr ⟨hr, q, hsr, tnone q (.inl t1), t2⟩⟩)⟩
         ·cases hj
       ·rename_i p hr
        split at hj
        ·rename_i hsr
         split at hj
         ·rename_i hal
          obtain ⟨t1, t2⟩ := aloneOk_ok hal
          have hg : g.get i = .row s := (Option.some.inj hj).symm
          exact ⟨.inr (.inr ⟨s, r, hg, hga, hs.symm.le, .inr ⟨hsr, p, hr, tnone p (.inr t1), t2⟩⟩), .inr (.inr ⟨s, s, hg, hgb, (RowSame.refl s).le, .inl rfl⟩)⟩
         ·cases hj
        ·rename_i q hsr
         split at hj
         ·rename_i hpq
          have hpq := beqT hpq
          have hg : g.get i = .row r := (Option.some.inj hj).symm
          exact ⟨.inr (.inr ⟨r, r, hg, hga, (RowSame.refl r).le, .inl rfl⟩), .inr (.inr ⟨r, s, hg, hgb, hs.le, .inl (by rw [hr, hsr, hpq])⟩)⟩
         ·cases hj
      ·split at hj
       ·rename_i hr
        split at hj
        ·rename_i hsr
         have hg : g.get i = .none := (Option.some.inj hj).symm
         exact ⟨.inl ⟨hg, fun s' q q1 q2 => by rw [hga] at q1; cases q1; rw [hr] at q2; cases q2⟩, .inl ⟨hg, fun s' q q1 q2 => by rw [hgb] at q1; cases q1; rw [hsr] at q2; cases q2⟩⟩
        ·cases hj
       ·cases hj
     ·rename_i hgb
      split at hj
      ·rename_i hr
       have hg : g.get i = .none := (Option.some.inj hj).symm
       exact ⟨.inl ⟨hg, fun s' q q1 q2 => by rw [hga] at q1; cases q1; rw [hr] at q2; cases q2⟩, .inl ⟨hg, fun s' q q1 q2 => by rw [hgb] at q1; cases q1⟩⟩
      ·cases hj
     ·cases hj
    ·cases hj
   ·exact ⟨.inr (.inl (far i hi).1), .inr (.inl (far i hi).2.1)⟩
  have gls : (∀ i r, a.get i = .gl r → g.get i = .gl r) ∧ ∀ i r, b.get i = .gl r → g.get i = .gl r := by
   refine ⟨fun i r q => ?_, fun i r q => ?_⟩
   ·by_cases hi : i ∈ a.log ++ b.log
    ·have hj := (h2 i hi).1
     rw [q] at hj
     cases hj
    ·rw [(far i hi).1]; exact q
   ·by_cases hi : i ∈ a.log ++ b.log
    ·have hj := (h2 i hi).1
     rw [q] at hj
     unfold abJoin at hj
     split at hj <;> cases hj
    ·rw [(far i hi).2.1]; exact q
  refine ⟨⟨⟨h1, fun i => (key i).1, fun q => ?_⟩, gls.1⟩, ⟨⟨h1.trans hn, fun i => (key i).2, fun q => ?_⟩, gls.2⟩⟩
  ·rcases tips q with t | ⟨t, _⟩
   ·exact .inl t
   ·exact .inr t
  ·rcases tips q with t | ⟨_, t⟩
   ·exact .inl t
   ·exact .inr t
 ·cases e
theorem joinE_get (a b : T AV) : ∀ (l : List Nat) (e : T AV) (t : Nat), (joinE a b l e).get und t = if t ∈ l then (match avEq (a.get und t) (b.get und t) with | true => a.get und t | false => .bad) else e.get und t
 | [], e, t => by simp; rfl
 | d :: l, e, t => by
  rw [show joinE a b (d :: l) e = joinE a b l (e.set und d (match avEq (a.get und d) (b.get und d) with | true => a.get und d | false => .bad)) from rfl, joinE_get a b l]
  by_cases h : t ∈ l
  ·rw [if_pos h, if_pos (List.mem_cons_of_mem _ h)]
  ·rw [if_neg h, get_set]
   by_cases hd : t = d
   ·subst hd; rw [if_pos rfl, if_pos List.mem_cons_self]
   ·rw [if_neg hd, if_neg (by simp [h, hd])]
/-! ## a code of few operations -/
theorem setD_get {e e' : T AV} {d : Option Tmp} {v : AV} {sz : Nat} {h h' : Heap} (q : setD e d v sz h = .ok e' h') : h' = h ∧ ∀ t, d ≠ some t → e'.get und t = e.get und t := by
 unfold setD at q
 split at q
 ·cases q; exact ⟨rfl, fun _ _ => rfl⟩
 ·rename_i d
  split at q
  ·cases q; exact ⟨rfl, fun t ht => get_set_ne _ _ (fun k => ht (by rw [k])) _⟩
  ·cases q
theorem stepA_calm {c : Ctx} {app : App} {sz : Nat} {ops : List Oper} {o : Oper} {e e' : T AV} {h h' : Heap} (hc : calmOp o.op = true) (q : stepA c app sz ops o e h = .ok e' h') :
  Logged h h' ∧ ∀ t, o.dst ≠ some t → e'.get und t = e.get und t := by
 unfold stepA at q
 split at q
 ·cases q
 ·obtain ⟨rfl, h2⟩ := setD_get q
  exact ⟨Logged.refl _, h2⟩
 ·split at q
  ·cases q
  ·rename_i v h1 hop
   obtain ⟨rfl, h2⟩ := setD_get q
   exact ⟨Logged.opA hc hop, h2⟩
  ·rename_i t args h1 hop
   exact (calm_noGo hc hop).elim
theorem regDsts_mem {ops : List Oper} {t : Nat} : ∀ {r : List Nat}, t ∈ regDsts ops r ↔ t ∈ r ∨ ∃ o ∈ ops, o.dst = some t := by
 induction ops with
 | nil => intro r; simp [show regDsts [] r = r from rfl]
 | cons o ops ih =>
  intro r
  have e : regDsts (o :: ops) r = (match o.dst with | some d => d :: regDsts ops r | none => regDsts ops r) := rfl
  rw [e]
  cases hd : o.dst with
  | none =>
   simp only []
   rw [ih]
   simp [hd]
  | some d =>
   simp only [List.mem_cons]
   rw [ih]
   constructor
   ·rintro (h | h | ⟨x, h1, h2⟩)
    ·exact .inr ⟨o, .inl rfl, by rw [hd, h]⟩
    ·exact .inl h
    ·exact .inr ⟨x, .inr h1, h2⟩
   ·rintro (h | ⟨x, rfl | h1, h2⟩)
    ·exact .inr (.inl h)
    ·rw [hd] at h2; cases h2; exact .inl rfl
    ·exact .inr (.inr ⟨x, h1, h2⟩)
theorem calmOps_mem : ∀ {ops : List Oper}, calmOps ops = true → ∀ o ∈ ops, calmOp o.op = true
 | [], _, o, ho => by cases ho
 | x :: ops, h, o, ho => by
  have h' : (match calmOp x.op with | true => calmOps ops | false => false) = true := h
  split at h'
  ·rename_i hx
   rcases List.mem_cons.1 ho with rfl | ho
   ·exact hx
   ·exact calmOps_mem h' o ho
  ·cases h'
theorem runOps_calm {c : Ctx} {app : App} {sz : Nat} {ops : List Oper} : ∀ {l : List Oper} {e e' : T AV} {h h' : Heap}, (∀ o ∈ l, calmOp o.op = true) → runOps c app sz ops l e h = .ok e' h' →
  Logged h h' ∧ ∀ t, (∀ o ∈ l, o.dst ≠ some t) → e'.get und t = e.get und t
 | [], e, e', h, h', hc, q => by cases q; exact ⟨Logged.refl _, fun _ _ => rfl⟩
 | o :: l, e, e', h, h', hc, q => by
  have q' : (match stepA c app sz ops o e h with | .ok e' h' => runOps c app sz ops l e' h' | .bad l => .bad l) = SR.ok e' h' := q
  split at q'
  ·rename_i e1 h1 hs
   obtain ⟨a1, a2⟩ := stepA_calm (hc o List.mem_cons_self) hs
   obtain ⟨b1, b2⟩ := runOps_calm (fun x hx => hc x (List.mem_cons_of_mem _ hx)) q'
   exact ⟨a1.trans b1, fun t ht => (b2 t (fun x hx => ht x (List.mem_cons_of_mem _ hx))).trans (a2 t (ht o List.mem_cons_self))⟩
  ·cases q'
def DrawCalm (draw : DrawOk) : Prop :=
 ∀ c app sz (ops : List Oper) e h e' h', calmOps ops = true → draw c app sz ops e h = .ok e' h' → Logged h h' ∧ ∀ t, (∀ o ∈ ops, o.dst ≠ some t) → e'.get und t = e.get und t
theorem exec_calm {c : Ctx} {draw : DrawOk} (dc : DrawCalm draw) {app : App} {lim : Nat} {fn : FuncId} {sz : Nat} {rd : Option Nat} : ∀ {code : Code} {l : List Nat} {s s' : St} {x : Ex}, calm code = some l →
  exec c draw app lim fn sz rd code s = .ok x s' → Logged s.h s'.h ∧ (∀ t, t ∉ l → s'.e.get und t = s.e.get und t) ∧ s'.m = s.m := by
 intro code
 induction code with
 | skip => intro l s s' x _ q; cases q; exact ⟨Logged.refl _, fun _ _ => rfl, rfl⟩
 | region id ops d =>
  intro l s s' x hc q
  have hc' : (match calmOps ops.toList with | true => some (regDsts ops.toList []) | false => none) = some l := hc
  split at hc'
  ·rename_i hcm
   cases hc'
   have key : ∀ {e' : T AV} {h' : Heap}, (Logged s.h h' ∧ ∀ t, (∀ o ∈ ops.toList, o.dst ≠ some t) → e'.get und t = s.e.get und t) → Res.ok .normal ⟨e', h', s.m⟩ = Res.ok x s' →
     Logged s.h s'.h ∧ (∀ t, t ∉ regDsts ops.toList [] → s'.e.get und t = s.e.get und t) ∧ s'.m = s.m := fun a b => by
    cases b
    exact ⟨a.1, fun t ht => a.2 t (fun o ho hd => ht (regDsts_mem.2 (.inr ⟨o, ho, hd⟩))), rfl⟩
   cases d with
   | false =>
    have q' : (match runOps c app sz ops.toList ops.toList s.e s.h with
     | .ok e h => Res.ok .normal ⟨e, h, s.m⟩
     | .bad l => .bad l) = Res.ok x s' := q
    split at q'
    ·rename_i e1 h1 hr
     exact key (runOps_calm (calmOps_mem hcm) hr) q'
    ·cases q'
   | true =>
    have q' : (match draw c app sz ops.toList s.e s.h with
     | .ok e h => Res.ok .normal ⟨e, h, s.m⟩
     | .bad l => .bad l) = Res.ok x s' := q
    split at q'
    ·rename_i e1 h1 hr
     exact key (dc _ _ _ _ _ _ _ _ hcm hr) q'
    ·cases q'
  ·cases hc'
 | seq ca cb iha ihb =>
  intro l s s' x hc q
  have hc' : (match calm ca with | some l => (match calm cb with | some m => some (l ++ m) | none => none) | none => none) = some l := hc
  split at hc'
  ·rename_i l1 h1
   split at hc'
   ·rename_i l2 h2
    cases hc'
    have q' : (match exec c draw app lim fn sz rd ca s with
     | .ok x s1 => (match x with
      | .normal => exec c draw app lim fn sz rd cb s1
      | x => .ok x s1)
     | .bad l => .bad l) = Res.ok x s' := q
    split at q'
    ·rename_i x1 s1 hs
     obtain ⟨a1, a2, a3⟩ := iha h1 hs
     split at q'
     ·obtain ⟨b1, b2, b3⟩ := ihb h2 q'
      exact ⟨a1.trans b1, fun t ht => by
       simp only [List.mem_append, not_or] at ht
       exact (b2 t ht.2).trans (a2 t ht.1), b3.trans a3⟩
     ·cases q'
      exact ⟨a1, fun t ht => by
       simp only [List.mem_append, not_or] at ht
       exact a2 t ht.1, a3⟩
    ·cases q'
   ·cases hc'
  ·cases hc'
 | cond cx ca cb _ _ => intro l s s' x hc q; cases hc
 | block id ca _ => intro l s s' x hc q; cases hc
 | loop ca _ => intro l s s' x hc q; cases hc
 | rangeFunc f ps assign body _ _ => intro l s s' x hc q; cases hc
 | exit id => intro l s s' x hc q; cases hc
 | scope ca iha => intro l s s' x hc q; exact iha hc q
 | label l => intro l s s' x _ q; cases q; exact ⟨Logged.refl _, fun _ _ => rfl, rfl⟩
 | goto l => intro l s s' x hc q; cases hc
 | ret => intro l s s' x hc q; cases hc
 | refuse why => intro l s s' x hc q; cases hc
end Go.Px
end
section
namespace Go.Px
def exitOf : Ex → Exit
 | .normal => .normal
 | .exit id => .exit id
 | .ret => .ret
def MR (ρ : Map) : List Nat → List Deferred → Prop
 | [], D => D = []
 | d :: m, D => ∃ B N r, ρ d = some (B, N) ∧ MR ρ m r ∧ D = { target := .collected B, args := #[] } :: r
theorem MR.mono {ρ σ : Map} (s : Sub ρ σ) : ∀ {m : List Nat} {D : List Deferred}, MR ρ m D → MR σ m D
 | [], D, h => h
 | d :: m, D, h => let ⟨B, N, r, a, b, c⟩ := h; ⟨B, N, r, s _ _ a, MR.mono s b, c⟩
theorem MR.append {ρ : Map} : ∀ {m m' : List Nat} {D D' : List Deferred}, MR ρ m D → MR ρ m' D' → MR ρ (m ++ m') (D ++ D')
 | [], m', D, D', h, k => by simp only [MR] at h; subst h; exact k
 | d :: m, m', D, D', h, k => by
  obtain ⟨B, N, r, a, b, rfl⟩ := h
  exact ⟨B, N, r ++ D', a, MR.append b k, rfl⟩
def RoOk (ρ : Map) (rd ro : Option Nat) : Prop :=
 match rd with
 | none => ro = none
 | some l => ∃ B N, ρ l = some (B, N) ∧ ro = some B
theorem RoOk.mono {ρ σ : Map} {rd ro : Option Nat} (h : RoOk ρ rd ro) (s : Sub ρ σ) : RoOk σ rd ro := by
 cases rd with
 | none => exact h
 | some l => obtain ⟨B, N, a, b⟩ := h; exact ⟨B, N, s _ _ a, b⟩
def DrawSound (c : Ctx) (draw : DrawOk) : Prop :=
 ∀ app, AppOk c app → ∀ (id sz : Nat) (ops : Array Oper) (e e' : T AV) (h h' : Heap), draw c app sz ops.toList e h = .ok e' h' →
  ∀ (ρ : Map) (w : World) (a : Act) (ro : Option Nat) (Q : Exit → Act → World → Prop), HR ρ h w → WF h → FreeUp c ρ h → ER ρ e a.tmps sz →
  (∀ a' w' ρ', Good ρ h w ρ' h' w' → ER ρ' e' a'.tmps sz → a'.defers = a.defers → Q .normal a' w') → (Code.region id ops true).wpIn (wideR ro) 0 c.P Q a w
section scope
variable {F : Fence} {n : Nat} {P : Program} {b : Frame} {a : Act} {k : List Item} {cs : List Frame} {w : World} {Q : Exit → Act → World → Prop}
theorem stepR_scope {c : Code} : step P (lone (b.atR a (.code (.scope c) :: k)) cs w) = .next (lone (b.atR a (.code c :: .inScope c :: k)) cs w) :=
 step_lone_go (by simp [stepG, stepG.exec, Frame.atR])
theorem stepR_inScope {c : Code} : step P (lone (b.atR a (.inScope c :: k)) cs w) = .next (lone (b.atR a k) cs w) :=
 step_lone_go (by simp [stepG, stepG.exec, Frame.atR])
theorem wpIn_scope {c : Code} (h : c.wpIn F n P (Exit.noGoto Q) a w) : (Code.scope c).wpIn F n P Q a w := by
 intro b k cs hro hb hr
 have h0 : (lone (b.atR a (.code (.scope c) :: k)) cs w).fenced P F := fenced_calm hb hr rfl
 obtain ⟨e, a₁, w₁, hq, harr⟩ := h b (.inScope c :: k) cs hro hb hr
 cases e with
 | normal => exact ⟨.normal, a₁, w₁, hq, .head h0 stepR_scope (StepsIn.trans harr (.one (fenced_calm hb hr rfl) stepR_inScope))⟩
 | exit id =>
  have hx : exitTo id (.inScope c :: k) = exitTo id k := by simp [exitTo]
  exact ⟨_, a₁, w₁, hq, fun k' hk => .head h0 stepR_scope (harr.1 k' (by rw [hx]; exact hk)),
   fun hr' hk => let ⟨k₁, h1, h2⟩ := harr.2 hr' (by rw [hx]; exact hk); ⟨k₁, h1, .head h0 stepR_scope h2⟩⟩
 | goto l => exact hq.elim
 | ret => exact ⟨_, a₁, w₁, hq, .of_steps (.one h0 stepR_scope) harr⟩
 | panic ch => exact ⟨_, a₁, w₁, hq, .of_steps (.one h0 stepR_scope) harr⟩
 | outgrown => exact ⟨_, a₁, w₁, hq, .of_steps (.one h0 stepR_scope) harr⟩
end scope
theorem ALoop.get {ρ : Map} {h : Heap} {w : World} (hr : HR ρ h w) {l B N : Nat} (hl : ρ l = some (B, N)) {r : ALoop} (e : h.get l = .loop r) :
  ∃ fn tm D M, w.heap[B]? = some (.loop { state := r.state, pending := pendOf r.pending, fn := fn, tmps := tm, params := r.params.toArray, assign := r.assign, body := r.body, defers := D }) ∧ ER ρ r.e tm r.sz ∧ ρ r.defers = some (D, M) := by
 have := hr.ok l B N hl (by unfold Heap.ok; rw [e]; trivial)
 rw [e] at this; exact this
theorem enterLoop_ok {c : Ctx} {P : Program} {ρ : Map} {h h1 : Heap} {w : World} (hr : HR ρ h w) (wf : WF h) (fr : FreeUp c ρ h) {e : T AV} {sz : Nat} {tm : Array Value} (er : ER ρ e tm sz)
  {fn fn' : FuncId} {ps : Array Tmp} {assign body : Code} {rd ro : Option Nat} (ho : RoOk ρ rd ro) {l : Nat} {m : List Nat} (he : enterLoop h fn e sz ps.toList assign body rd = some (l, m, h1)) :
  ∃ B N mark w1 ρ1, (Instr.enterLoop fn' tm ps assign body ro).run P w = .ok (B, mark) w1 ∧ Good ρ h w ρ1 h1 w1 ∧ ρ1 l = some (B, N) ∧ MR ρ1 m mark := by
 unfold enterLoop at he
 cases rd with
 | none =>
  simp only [RoOk] at ho
  subst ho
  simp only [] at he
  cases he
  have g1 := Good.newBlock hr wf (fr.1 _ (Nat.le_refl _)) (.dfr true) (.deferred (some [])) 0 (fun r q => by cases q) (by simp only [ABR]; exact World.alloc_heap_new _ _)
  have n1 : (h.new (.dfr true)).nxt = h.nxt + 1 := rfl
  have hs1 : Sub ρ (upd ρ h.nxt (w.heap.size, 0)) := g1.sub
  have g2 := Good.newBlock g1.hr g1.wf ((g1.up fr).1 _ (Nat.le_refl _)) (.loop ⟨.ready, none, fn, e, sz, ps.toList, assign, body, h.nxt⟩)
   (.loop { state := .ready, pending := none, fn := fn', tmps := tm, params := ps, assign, body, defers := w.heap.size }) 0 (fun r q => by cases q)
   (by
    simp only [ABR]
    have hs2 := upd_sub (p := ((w.alloc (.deferred (some []))).heap.size, 0)) ((g1.up fr).1 _ (Nat.le_refl _))
    exact ⟨fn', tm, w.heap.size, 0, by rw [World.alloc_heap_new]; simp [pendOf], (er.mono hs1).mono hs2, hs2 _ _ (upd_same _ _ _)⟩)
  refine ⟨w.heap.size + 1, 0, _, _, _, run_enterLoop_outer _ _ _ _ _, g1.trans g2, ?_, ?_⟩
  ·rw [n1, upd_same]; simp [World.size_alloc]
  ·refine ⟨w.heap.size, 0, [], ?_, rfl, rfl⟩
   exact g2.sub _ _ (upd_same _ _ _)
 | some l0 =>
  obtain ⟨B0, N0, hl0, rfl⟩ := ho
  simp only [] at he
  split at he
  ·rename_i r hg
   cases he
   obtain ⟨fn0, tm0, D, M, q1, q2, q3⟩ := ALoop.get hr hl0 hg
   have hs2 := upd_sub (p := (w.heap.size, 0)) (fr.1 _ (Nat.le_refl _))
   have g := Good.newBlock hr wf (fr.1 _ (Nat.le_refl _)) (.loop ⟨.ready, none, fn, e, sz, ps.toList, assign, body, r.defers⟩)
    (.loop { state := .ready, pending := none, fn := fn', tmps := tm, params := ps, assign, body, defers := D }) 0 (fun r q => by cases q)
    (by
     simp only [ABR]
     exact ⟨fn', tm, D, M, by rw [World.alloc_heap_new]; simp [pendOf], er.mono hs2, hs2 _ _ q3⟩)
   refine ⟨w.heap.size, 0, [], _, _, ?_, g, upd_same _ _ _, rfl⟩
   unfold Instr.enterLoop
   simp only [Sem.run_bind, run_getLoop q1, run_newObj_alloc, Result.andThen, Sem.run_pure]
  ·cases he
section
variable {c : Ctx} (k : CtxOk c) {draw : DrawOk} (dc : DrawCalm draw) (dr : DrawSound c draw) {app : App} (ha : AppOk c app) {lim : Nat} {fn : FuncId} {sz : Nat}
include k dc dr ha
def CodeOk (c : Ctx) (sz : Nat) (rd : Option Nat) (code : Code) (run : St → Res) : Prop :=
 ∀ s x s', run s = .ok x s' → ∀ (ro : Option Nat) (ρ : Map) (w : World) (a : Act) (Q : Exit → Act → World → Prop), RoOk ρ rd ro → HR ρ s.h w → WF s.h → FreeUp c ρ s.h → ER ρ s.e a.tmps sz → MR ρ s.m a.defers →
  (∀ a' w' ρ', Good ρ s.h w ρ' s'.h w' → ER ρ' s'.e a'.tmps sz → MR ρ' s'.m a'.defers → Q (exitOf x) a' w') → code.wpIn (wideR ro) 0 c.P Q a w
omit k dc dr ha in
theorem loop_ok {rd : Option Nat} {code : Code} {ra : St → Res} (ih : CodeOk c sz rd code ra) : CodeOk c sz rd (.loop code) (exLoop lim ra) := by
 intro s x s' he ro ρ w a Q ho hr wf fr er mr hQ
 intro b kk cs hro hb hroom
 have key : ∀ n s x s', exLoop n ra s = .ok x s' → ∀ (ρ : Map) (w : World) (a : Act) (Q : Exit → Act → World → Prop), RoOk ρ rd ro → HR ρ s.h w → WF s.h → FreeUp c ρ s.h → ER ρ s.e a.tmps sz → MR ρ s.m a.defers →
   (∀ a' w' ρ', Good ρ s.h w ρ' s'.h w' → ER ρ' s'.e a'.tmps sz → MR ρ' s'.m a'.defers → Q (exitOf x) a' w') →
   ∃ e a' w', Q e a' w' ∧ ArrivesIn (Machine.fenced c.P (wideR ro)) c.P (lone (b.atR a (.code code :: .inLoop code :: kk)) cs w) b kk cs e a' w' := by
  intro n
  induction n with
  | zero => intro s x s' he; cases he
  | succ n ihn =>
   intro s x s' he ρ w a Q ho hr wf fr er mr hQ
   have he' : (match ra s with
    | .ok x s1 => (match x with
     | .normal => exLoop n ra s1
     | x => .ok x s1)
    | .bad l => .bad l) = Res.ok x s' := he
   cases hs : ra s with
   | bad l => rw [hs] at he'; cases he'
   | ok x1 s1 =>
    rw [hs] at he'
    simp only [] at he'
    have h1 := ih s x1 s1 hs ro ρ w a (fun e a' w' => e = exitOf x1 ∧ ∃ ρ', Good ρ s.h w ρ' s1.h w' ∧ ER ρ' s1.e a'.tmps sz ∧ MR ρ' s1.m a'.defers) ho hr wf fr er mr
     (fun a' w' ρ' g1 g2 g3 => ⟨rfl, ρ', g1, g2, g3⟩)
    obtain ⟨e, a₁, w₁, ⟨rfl, ρ1, g1, g2, g3⟩, harr⟩ := h1 b (.inLoop code :: kk) cs hro hb hroom
    cases x1 with
    | normal =>
     simp only [] at he'
     obtain ⟨e₂, a₂, w₂, hq₂, harr₂⟩ := ihn s1 x s' he' ρ1 w₁ a₁ Q (ho.mono g1.sub) g1.hr g1.wf (g1.up fr) g2 g3 (fun a' w' ρ' q1 q2 q3 => hQ a' w' ρ' (g1.trans q1) q2 q3)
     exact ⟨e₂, a₂, w₂, hq₂, .of_steps (StepsIn.trans harr (.one (fenced_calm hb hroom rfl) stepR_inLoop)) harr₂⟩
    | exit id =>
     simp only [] at he'; cases he'
     exact ⟨_, a₁, w₁, hQ _ _ _ g1 g2 g3, .pass (x := .inLoop code) rfl (fun _ _ => .inl (by simp [exitOf])) harr⟩
    | ret =>
     simp only [] at he'; cases he'
     exact ⟨_, a₁, w₁, hQ _ _ _ g1 g2 g3, .pass (x := .inLoop code) rfl (fun _ _ => .inl (by simp [exitOf])) harr⟩
 obtain ⟨e, a', w', hq, harr⟩ := key lim s x s' he ρ w a Q ho hr wf fr er mr hQ
 exact ⟨e, a', w', hq, .of_steps (.one (fenced_calm hb hroom rfl) stepR_loop) harr⟩
omit dc dr in
theorem callV_ok {ρ : Map} {h h' : Heap} {w : World} (hr : HR ρ h w) (wf : WF h) (fr : FreeUp c ρ h) {f v : AV} {args : List AV} (he : callV c app f args h = .ok v h') {x : Value} (hx : VR ρ f x) {A : List Value} (hA : VRs ρ args A) :
  ∃ fi F C, x = .func (.func fi) F C ∧ (callFunc fi (F ++ A.toArray ++ C)).run c.P w = .ok (.enter fi (F ++ A.toArray ++ C)) w ∧
   CallsIn Fence.wide 0 c.P fi (F ++ A.toArray ++ C) w (EndR fun z w' => ∃ ρ', Good ρ h w ρ' h' w' ∧ VR ρ' v z) := by
 unfold callV at he
 split at he
 ·rename_i g first cap
  split at he
  ·rename_i fi
   split at he
   ·rename_i hbo
    simp only [VR, FR] at hx
    obtain ⟨_, F, C, rfl, e2, e3, rfl⟩ := hx
    obtain ⟨nx, w1, q1, q2⟩ := ha _ _ _ _ _ he ρ w (F ++ A ++ C) hr wf fr (VRs.append (VRs.append e2 hA) e3)
    unfold hasBody at hbo
    cases hf : c.fns.get none fi with
    | none => rw [hf] at hbo; cases hbo
    | some fn =>
     rw [hf] at hbo
     simp only [] at hbo
     cases hbd : fn.body with
     | none => rw [hbd] at hbo; cases hbo
     | some bd =>
      have hP := k.fns fi fn hf
      have hnm : fn.name ≠ "runtime.NumGoroutine" := by simpa using k.names fi fn hP
      have hrun : ∀ X, (callFunc fi X).run c.P w = .ok (.enter fi X) w := fun X => by simp [callFunc, hP, hnm, hbd, Sem.run]
      rw [hrun] at q1
      cases q1
      refine ⟨fi, F.toArray, C.toArray, rfl, hrun _, ?_⟩
      have : (F.toArray ++ A.toArray ++ C.toArray) = (F ++ A ++ C).toArray := by apply Array.ext'; simp
      rw [this]
      exact q2
   ·cases he
  ·cases he
 ·cases he
theorem exec_ok (rd : Option Nat) : ∀ code, CodeOk c sz rd code (exec c draw app lim fn sz rd code) := by
 intro code
 induction code with
 | skip =>
  intro s x s' he ro ρ w a Q ho hr wf fr er mr hQ
  cases he
  exact wpIn_skip (hQ a w ρ (Good.refl hr wf) er mr)
 | region id ops d =>
  intro s x s' he ro ρ w a Q ho hr wf fr er mr hQ
  cases d with
  | false =>
   have he' : (match runOps c app sz ops.toList ops.toList s.e s.h with
    | .ok e h => Res.ok .normal ⟨e, h, s.m⟩
    | .bad l => .bad l) = Res.ok x s' := he
   cases hs : runOps c app sz ops.toList ops.toList s.e s.h with
   | bad l => rw [hs] at he'; cases he'
   | ok e1 h1 =>
    rw [hs] at he'; cases he'
    refine wpIn_region (runOps_ok k ha (List.range ops.size) ops.toList ?_ hr wf fr er hs fun a' w' ρ' g1 g2 g3 => hQ a' w' ρ' g1 g2 (by rw [g3]; exact mr.mono g1.sub))
    apply List.ext_getElem?
    intro i
    simp only [List.getElem?_map]
    by_cases hi : i < ops.size
    ·simp [hi]
    ·simp [hi]
  | true =>
   have he' : (match draw c app sz ops.toList s.e s.h with
    | .ok e h => Res.ok .normal ⟨e, h, s.m⟩
    | .bad l => .bad l) = Res.ok x s' := he
   cases hs : draw c app sz ops.toList s.e s.h with
   | bad l => rw [hs] at he'; cases he'
   | ok e1 h1 =>
    rw [hs] at he'; cases he'
    exact dr app ha id sz ops s.e e1 s.h h1 hs ρ w a ro Q hr wf fr er fun a' w' ρ' g1 g2 g3 => hQ a' w' ρ' g1 g2 (by rw [g3]; exact mr.mono g1.sub)
 | seq ca cb iha ihb =>
  intro s x s' he ro ρ w a Q ho hr wf fr er mr hQ
  have he' : (match exec c draw app lim fn sz rd ca s with
   | .ok x s1 => (match x with
    | .normal => exec c draw app lim fn sz rd cb s1
    | x => .ok x s1)
   | .bad l => .bad l) = Res.ok x s' := he
  cases hs : exec c draw app lim fn sz rd ca s with
  | bad l => rw [hs] at he'; cases he'
  | ok x1 s1 =>
   rw [hs] at he'
   refine wpIn_seq (iha s x1 s1 hs ro ρ w a _ ho hr wf fr er mr fun a1 w1 ρ1 g1 g2 g3 => ?_)
   cases x1 with
   | normal => exact ihb s1 x s' he' ro ρ1 w1 a1 Q (ho.mono g1.sub) g1.hr g1.wf (g1.up fr) g2 g3 fun a' w' ρ' q1 q2 q3 => hQ a' w' ρ' (g1.trans q1) q2 q3
   | exit id => simp only [] at he'; cases he'; exact hQ _ _ _ g1 g2 g3
   | ret => simp only [] at he'; cases he'; exact hQ _ _ _ g1 g2 g3
 | cond cx ca cb iha ihb =>
  intro s x s' he ro ρ w a Q ho hr wf fr er mr hQ
  have he' : (match ev s.e cx with
   | .bool b => (match b with | true => exec c draw app lim fn sz rd ca s | false => exec c draw app lim fn sz rd cb s)
   | .anyb => two s (calm ca) (calm cb) (exec c draw app lim fn sz rd ca s.unlog) (exec c draw app lim fn sz rd cb s.unlog)
   | _ => .bad ["cond"]) = Res.ok x s' := he
  have hv := ev_ok er cx
  split at he'
  ·rename_i b hb
   rw [hb] at hv
   simp only [VR] at hv
   refine wpIn_cond hv ?_
   cases b with
   | true => exact iha s x s' he' ro ρ w a Q ho hr wf fr er mr hQ
   | false => exact ihb s x s' he' ro ρ w a Q ho hr wf fr er mr hQ
  ·rename_i hb
   rw [hb] at hv
   simp only [VR] at hv
   obtain ⟨b, hv⟩ := hv
   refine wpIn_cond hv ?_
   unfold two at he'
   split at he'
   ·cases he'
   ·rename_i l hl
    split at he'
    ·cases he'
    ·rename_i m hm
     split at he'
     ·cases he'
     ·rename_i x1 s1 h1
      split at he'
      ·split at he'
       ·cases he'
       ·rename_i y s2 h2
        split at he'
        ·split at he'
         ·cases he'
         ·rename_i g hg
          cases he'
          obtain ⟨a1, a2, a3⟩ := exec_calm dc hl h1
          obtain ⟨b1, b2, b3⟩ := exec_calm dc hm h2
          obtain ⟨w1, w2⟩ := joinH_weak a1 b1 hg
          have er1 : ER ρ s.unlog.e a.tmps sz := er
          have mr1 : MR ρ s.unlog.m a.defers := mr
          cases b with
          | true =>
           refine iha s.unlog _ s1 h1 ro ρ w a Q ho hr.unlog wf.unlog fr er1 mr1 fun a' w' ρ' g1 g2 g3 => hQ a' w' ρ' (g1.ofUnlog.weak w1) ⟨g2.1, fun t => ?_⟩ (by rw [show s.m = s1.m from a3.symm]; exact g3)
           rw [joinE_get]
           split
           ·split
            ·exact g2.2 t
            ·simp only [VR]
           ·rename_i ht
            rw [← show s1.e.get und t = s.e.get und t from a2 t (fun q => ht (List.mem_append_left _ q))]
            exact g2.2 t
          | false =>
           refine ihb s.unlog _ s2 h2 ro ρ w a Q ho hr.unlog wf.unlog fr er1 mr1 fun a' w' ρ' g1 g2 g3 => hQ a' w' ρ' (g1.ofUnlog.weak w2) ⟨g2.1, fun t => ?_⟩ (by rw [show s.m = s2.m from b3.symm]; exact g3)
           rw [joinE_get]
           split
           ·split
            ·rename_i hq
             rw [avEq_eq hq]; exact g2.2 t
            ·simp only [VR]
           ·rename_i ht
            rw [← show s2.e.get und t = s.e.get und t from b2 t (fun q => ht (List.mem_append_right _ q))]
            exact g2.2 t
        ·cases he'
      ·cases he'
  ·cases he'
 | block id ca iha =>
  intro s x s' he ro ρ w a Q ho hr wf fr er mr hQ
  have he' : (match exec c draw app lim fn sz rd ca s with
   | .ok x s' => (match x with
    | .exit i => (match Nat.beq i id with | true => .ok .normal s' | false => .ok (.exit i) s')
    | x => .ok x s')
   | .bad l => .bad l) = Res.ok x s' := he
  cases hs : exec c draw app lim fn sz rd ca s with
  | bad l => rw [hs] at he'; cases he'
  | ok x1 s1 =>
   rw [hs] at he'
   refine wpIn_block (iha s x1 s1 hs ro ρ w a _ ho hr wf fr er mr fun a1 w1 ρ1 g1 g2 g3 => ?_)
   cases x1 with
   | normal => simp only [] at he'; cases he'; exact hQ _ _ _ g1 g2 g3
   | ret => simp only [] at he'; cases he'; exact hQ _ _ _ g1 g2 g3
   | exit i =>
    simp only [] at he'
    split at he'
    ·rename_i hi
     cases he'
     simp only [exitOf, Exit.inBlock]
     rw [if_pos (beqT hi)]; exact hQ _ _ _ g1 g2 g3
    ·rename_i hi
     cases he'
     simp only [exitOf, Exit.inBlock]
     rw [if_neg (beqN hi)]; exact hQ _ _ _ g1 g2 g3
 | loop ca iha => exact loop_ok (lim := lim) iha
 | rangeFunc f ps assign body _ _ =>
  intro s x s' he ro ρ w a Q ho hr wf fr er mr hQ
  have he' : (match enterLoop s.h fn s.e sz ps.toList assign body rd with
   | none => .bad ["range"]
   | some (l, m, h) => (match callV c app (ev s.e f) [.fn (.yield l) [] []] h with
    | .bad l => .bad l
    | .ok _ h' => (match h'.get l with
     | .loop r => (match r.state with
      | .busy => .bad ["busy"]
      | _ => (match r.pending with
       | none => .ok .normal ⟨s.e, h'.put l (.loop { r with state := .exhausted }), m ++ s.m⟩
       | some x => .ok x ⟨s.e, h'.put l (.loop { r with state := .exhausted }), m ++ s.m⟩))
     | _ => .bad ["loop"]))) = Res.ok x s' := he
  cases hl : enterLoop s.h fn s.e sz ps.toList assign body rd with
  | none => rw [hl] at he'; cases he'
  | some lmh =>
   obtain ⟨l, m, h1⟩ := lmh
   rw [hl] at he'
   simp only [] at he'
   cases hc : callV c app (ev s.e f) [.fn (.yield l) [] []] h1 with
   | bad l => rw [hc] at he'; cases he'
   | ok v h2 =>
    rw [hc] at he'
    simp only [] at he'
    refine wpIn_rangeFunc fun fn' _ => ?_
    obtain ⟨B, N, mark, w1, ρ1, q1, g1, hl1, hm1⟩ := enterLoop_ok (P := c.P) (fn' := fn') hr wf fr er ho hl
    have hfv := VR.mono g1.sub _ (ev_ok er f)
    have hy : VRs ρ1 [AV.fn (.yield l) [] []] [Value.func (.yield B) #[] #[]] := by
     simp only [VRs, VR, FR]
     exact ⟨_, _, ⟨_, [], [], ⟨B, N, hl1, rfl⟩, rfl, rfl, rfl⟩, rfl, rfl⟩
    obtain ⟨fi, F, C, hfe, hcf, hcalls⟩ := callV_ok k ha g1.hr g1.wf (g1.up fr) hc hfv hy
    refine ⟨B, mark, w1, { target := .fn (.func fi) C, args := F ++ #[Value.func (.yield B) #[] #[]] }, w1, fi, F ++ #[Value.func (.yield B) #[] #[]] ++ C, w1, q1, ?_, fun _ _ => trivial, ?_, fun q => by simp [wideR, Fence.wide] at q, ?_⟩
    ·simp only [resolve, hfe, Deferred.ofValue, Sem.run_pure]
     simp [Act.eval]
    ·simp only [invoke]; exact hcf
    ·refine CallsIn.mono (callsIn_ro hcalls) fun e w' r => ?_
     cases e with
     | panicked ch => exact r.elim
     | outgrown => exact r.elim
     | returned z =>
      obtain ⟨ρ2, g2, _⟩ := r
      split at he'
      ·rename_i r hgl
       have hl2 := g2.sub _ _ hl1
       obtain ⟨fn0, tm, D, M, p1, p2, p3⟩ := ALoop.get g2.hr hl2 hgl
       have hlt := g2.hr.lt l B N hl2
       have hnb : r.state ≠ .busy := by intro hb; rw [hb] at he'; cases he'
       have g3 := Good.putBlock g2.hr g2.wf hl2 (.loop r) (.loop { r with state := .exhausted })
        (.loop { state := .exhausted, pending := pendOf r.pending, fn := fn0, tmps := tm, params := r.params.toArray, assign := r.assign, body := r.body, defers := D }) hgl rfl (by simp) rfl
        (by simp only [ABR]; exact ⟨fn0, tm, D, M, World.putObj_heap_same hlt, p2, p3⟩)
       have gg := (g1.trans g2).trans g3
       refine ⟨pendOf r.pending, _, run_endLoop p1 hnb, ?_⟩
       split at he'
       ·cases he'
       ·split at he'
        ·rename_i hp
         cases he'
         have hq := hQ { a with defers := mark ++ a.defers } _ ρ2 gg (er.mono gg.sub) (MR.append (hm1.mono (g2.trans g3).sub) (mr.mono gg.sub))
         simp only [hp, pendOf] at hq ⊢
         exact hq
        ·rename_i y hp
         cases he'
         have hq := hQ { a with defers := mark ++ a.defers } _ ρ2 gg (er.mono gg.sub) (MR.append (hm1.mono (g2.trans g3).sub) (mr.mono gg.sub))
         cases x with
         | normal => simp only [hp, pendOf, exCode] at hq ⊢; exact hq
         | exit id => simp only [hp, pendOf, exCode] at hq ⊢; exact wpIn_exit hq
         | ret => simp only [hp, pendOf, exCode] at hq ⊢; exact wpIn_ret hq
      ·cases he'
 | exit id =>
  intro s x s' he ro ρ w a Q ho hr wf fr er mr hQ
  cases he
  exact wpIn_exit (hQ a w ρ (Good.refl hr wf) er mr)
 | scope ca iha =>
  intro s x s' he ro ρ w a Q ho hr wf fr er mr hQ
  refine wpIn_scope (iha s x s' he ro ρ w a _ ho hr wf fr er mr fun a1 w1 ρ1 g1 g2 g3 => ?_)
  cases x <;> exact hQ _ _ _ g1 g2 g3
 | label l =>
  intro s x s' he ro ρ w a Q ho hr wf fr er mr hQ
  cases he
  exact wpIn_label (hQ a w ρ (Good.refl hr wf) er mr)
 | goto l => intro s x s' he; cases he
 | ret =>
  intro s x s' he ro ρ w a Q ho hr wf fr er mr hQ
  cases he
  exact wpIn_ret (hQ a w ρ (Good.refl hr wf) er mr)
 | refuse why => intro s x s' he; cases he
end
end Go.Px
end
section
namespace Go.Px
def ExtOk (c : Ctx) (ext : Ext) : Prop :=
 ∀ app, AppOk c app → ∀ (f : FuncId) fn args h v h', ext app f fn args h = .ok v h' → c.P.funcs[f]? = some fn → fn.body = none →
  ∀ (ρ : Map) (w : World) (A : List Value), HR ρ h w → WF h → FreeUp c ρ h → VRs ρ args A →
   ∃ nx w1, (callFunc f A.toArray).run c.P w = .ok nx w1 ∧ NextOk c.P (fun z w' => ∃ ρ', Good ρ h w ρ' h' w' ∧ VR ρ' v z) nx w1
theorem args_er {ρ : Map} {args : List AV} {A : List Value} (h : VRs ρ args A) {n : Nat} (hn : args.length ≤ n) :
  ER ρ (T.put und args (env0 und n) 0) (A.toArray ++ Array.replicate (n - A.toArray.size) undef) n := by
 have hl := h.length
 refine ⟨by simp; omega, fun t => ?_⟩
 rw [get_put]
 simp only [Nat.zero_le, if_true, Nat.sub_zero, get_env0]
 rw [Array.getD_eq_getD_getElem?]
 by_cases ht : t < A.length
 ·have h1 : args[t]? = some args[t] := List.getElem?_eq_getElem (by omega)
  obtain ⟨v, h2, h3⟩ := h.at h1
  rw [Array.getElem?_append_left (by simpa using ht), h1]
  have h4 : A.toArray[t]? = some v := by simpa using h2
  rw [h4]; exact h3
 ·have h1 : args[t]? = none := List.getElem?_eq_none (by omega)
  rw [h1, Array.getElem?_append_right (by simpa using ht)]
  simp only [Option.getD_none]
  rw [Array.getElem?_replicate]
  split <;> exact und_ok ρ
theorem leave_ok {P : Program} {fn : Func} {tm : Array Value} {R : Ending → World → Prop} : ∀ {m : List Nat} {ρ : Map} {h h' : Heap} {w : World} (hr : HR ρ h w) (wf : WF h) {D : List Deferred} (hm : MR ρ m D) (e : leave h m = some h')
  (hR : ∀ w', Good ρ h w ρ h' w' → ∃ v, (results fn tm).run P w' = .ok v w' ∧ R (.returned v) w'), LeavesInM Fence.wide 0 P fn tm R D .returning w
 | [], ρ, h, h', w, hr, wf, D, hm, e, hR => by
  simp only [MR] at hm; subst hm
  cases e
  exact hR w (Good.refl hr wf)
 | d :: m, ρ, h, h', w, hr, wf, D, hm, e, hR => by
  obtain ⟨B, N, r, hB, hm, rfl⟩ := hm
  have e' : (match h.get d with
   | .dfr b => (match b with | true => leave (h.put d (.dfr false)) m | false => none)
   | _ => none) = some h' := e
  split at e'
  ·rename_i b hd
   split at e'
   ·have hob := hr.ok d B N hB (by unfold Heap.ok; rw [hd]; trivial)
    rw [hd] at hob
    simp only [ABR] at hob
    have g := Good.putBlock hr wf hB (.dfr true) (.dfr false) (.deferred none) hd rfl (by simp) rfl (by simp only [ABR]; exact World.putObj_heap_same (hr.lt d B N hB))
    refine ⟨by simp, .inl ⟨B, _, rfl, run_takeDeferred hob, ?_⟩⟩
    exact leave_ok g.hr g.wf hm e' (fun w' g' => hR w' (g.trans g'))
   ·cases e'
  ·cases e'
section
variable {c : Ctx} (k : CtxOk c)
include k
theorem loadVar_ok {ρ : Map} {h : Heap} {w : World} (hr : HR ρ h w) {t : TypeId} {a v : AV} {x : Value} (e : oLoad c h t a = some v) (hx : VR ρ a x) :
  ∃ y, (do loadVar t (← asAddr x) : Sem Value).run c.P w = .ok y w ∧ VR ρ v y := by
 obtain ⟨y, q1, q2⟩ := load_ok k hr e hx
 refine ⟨y, ?_, q2⟩
 unfold oLoad at e
 split at e
 ·simp only [VR] at hx
  subst hx
  simpa [Instr.loadAt, Instr.sureAddr, asAddr] using q1
 ·simp only [VR] at hx
  obtain ⟨B, N, _, rfl⟩ := hx
  simpa [Instr.loadAt, Instr.sureAddr, asAddr] using q1
 ·simp only [VR] at hx
  obtain ⟨B, C, _, rfl⟩ := hx
  simpa [Instr.loadAt, Instr.sureAddr, asAddr] using q1
 ·simp only [VR] at hx
  obtain ⟨B, o, L, rfl, _⟩ := hx
  simpa [Instr.loadAt, Instr.sureAddr, asAddr] using q1
 ·cases e
def resOne (tm : Array Value) : ResultVar → Sem Value
 | .tmp t => pure (tm.getD t undef)
 | .cell a t => do loadVar t (← asAddr (tm.getD a undef))
theorem resA_ok {ρ : Map} {h : Heap} {w : World} (hr : HR ρ h w) {e : T AV} {tm : Array Value} {sz : Nat} (er : ER ρ e tm sz) : ∀ {l : List ResultVar} {vs : List AV}, resA c h e l = some vs →
  ∃ Vs, (l.mapM (resOne tm)).run c.P w = .ok Vs w ∧ VRs ρ vs Vs
 | [], vs, q => by cases q; exact ⟨[], by simp, by simp [VRs]⟩
 | r :: l, vs, q => by
  have q' : (match (match r with | .tmp t => some (e.get und t) | .cell a t => oLoad c h t (e.get und a)) with
   | some v => (match resA c h e l with | some vs => some (v :: vs) | none => none)
   | none => none) = some vs := q
  cases hv : (match r with | .tmp t => some (e.get und t) | .cell a t => oLoad c h t (e.get und a)) with
  | none => rw [hv] at q'; cases q'
  | some v =>
   rw [hv] at q'
   simp only [] at q'
   cases hl : resA c h e l with
   | none => rw [hl] at q'; cases q'
   | some vs' =>
    rw [hl] at q'; cases q'
    obtain ⟨Vs, q1, q2⟩ := resA_ok hr er hl
    have h1 : ∃ y, (resOne tm r).run c.P w = .ok y w ∧ VR ρ v y := by
     cases r with
     | tmp t => cases hv; exact ⟨_, by simp [resOne], er.2 t⟩
     | cell a t => exact loadVar_ok k hr hv (er.2 a)
    obtain ⟨y, h1, h2⟩ := h1
    refine ⟨y :: Vs, by simp [List.mapM_cons, h1, q1], ?_⟩
    simp only [VRs]; exact ⟨_, _, h2, q2, rfl⟩
theorem results_ok {ρ : Map} {h : Heap} {w : World} (hr : HR ρ h w) {e : T AV} {tm : Array Value} {sz : Nat} (er : ER ρ e tm sz) {fn : Func} {vs : List AV} (q : resA c h e fn.results.toList = some vs) :
  ∃ z, (results fn tm).run c.P w = .ok z w ∧ VR ρ (one vs) z := by
 obtain ⟨Vs, q1, q2⟩ := resA_ok k hr er q
 have e1 : results fn tm = (do let vs ← fn.results.mapM (resOne tm); pure (if h : vs.size = 1 then vs[0] else .tuple vs)) := by
  unfold results
  congr 1
 rw [e1, Array.mapM_eq_mapM_toList]
 refine ⟨if h : Vs.toArray.size = 1 then Vs.toArray[0] else .tuple Vs.toArray, by simp [q1], ?_⟩
 have hl := q2.length
 unfold one
 split
 ·rename_i v
  simp only [VRs] at q2
  obtain ⟨x, _, q2, rfl, rfl⟩ := q2
  simpa using q2
 ·rename_i hne
  have : Vs.length ≠ 1 := by
   intro hh
   rw [hh] at hl
   match vs, hl with
   | [v], _ => exact hne v rfl
  rw [dif_neg (by simpa using this)]
  simp only [VR]; exact ⟨Vs, q2, rfl⟩
variable {draw : DrawOk} (dc : DrawCalm draw) (dr : DrawSound c draw) {ext : Ext} (hx : ExtOk c ext) {lim : Nat}
include dc dr hx
theorem callA_ok {app : App} (ha : AppOk c app) {f : FuncId} {args : List AV} {h h' : Heap} {v : AV} (he : callA c draw app lim ext f args h = .ok v h')
  {ρ : Map} {w : World} {A : List Value} (hr : HR ρ h w) (wf : WF h) (fr : FreeUp c ρ h) (hA : VRs ρ args A) :
  ∃ nx w1, (callFunc f A.toArray).run c.P w = .ok nx w1 ∧ NextOk c.P (fun z w' => ∃ ρ', Good ρ h w ρ' h' w' ∧ VR ρ' v z) nx w1 := by
 unfold callA at he
 split at he
 ·cases he
 ·rename_i fn hf
  have hP := k.fns f fn hf
  have hnm : fn.name ≠ "runtime.NumGoroutine" := by simpa using k.names f fn hP
  split at he
  ·rename_i hb
   cases hxe : ext app f fn args h with
   | bad l => rw [hxe] at he; cases he
   | ok v1 h1 =>
    rw [hxe] at he; cases he
    exact hx app ha f fn args h v h' hxe hP hb ρ w A hr wf fr hA
  ·rename_i body hb
   refine ⟨.enter f A.toArray, w, by simp [callFunc, hP, hnm, hb, Sem.run], ?_⟩
   split at he
   ·cases he
   ·rename_i hlen
    cases hs : exec c draw app lim f fn.ntmps none body ⟨T.put und args (env0 und fn.ntmps) 0, h, []⟩ with
    | bad l => rw [hs] at he; cases he
    | ok x s =>
     rw [hs] at he
     simp only [] at he
     split at he
     ·cases he
     ·rename_i hxx
      cases hlv : leave s.h s.m with
      | none => rw [hlv] at he; cases he
      | some h2 =>
       rw [hlv] at he
       simp only [] at he
       cases hre : resA c h2 s.e fn.results.toList with
       | none => rw [hre] at he; cases he
       | some vs =>
        rw [hre] at he; cases he
        refine callsIn_of_wp_marks hP hb trivial ?_
        refine exec_ok k dc dr ha (lim := lim) (fn := f) (sz := fn.ntmps) none body _ _ _ hs none ρ w _ _ rfl hr wf fr (args_er hA (bleT hlen)) rfl fun a' w' ρ' g er mr => ?_
        have hfin : LeavesInM Fence.wide 0 c.P fn a'.tmps (EndR fun z w' => ∃ ρ', Good ρ h w ρ' h' w' ∧ VR ρ' (one vs) z) a'.defers .returning w' := by
         refine leave_ok g.hr g.wf mr hlv fun w2 g2 => ?_
         obtain ⟨z, z1, z2⟩ := results_ok k g2.hr er hre
         exact ⟨z, z1, ρ', g.trans g2, z2⟩
        cases x with
        | normal => exact hfin
        | ret => exact hfin
        | exit id => cases hxx
omit k dc dr hx in
theorem setPs_ok {ρ : Map} {sz : Nat} : ∀ {ps : List Tmp} {args : List AV} {A : List Value} {e e' : T AV} {tm : Array Value}, setPs e ps args sz = some e' → VRs ρ args A → ER ρ e tm sz →
  A.length = ps.length ∧ ER ρ e' ((ps.zip A).foldl (fun tmps (p : Tmp × Value) => tmps.setIfInBounds p.1 p.2) tm) sz
 | [], [], A, e, e', tm, q, hA, er => by
  have q' : some e = some e' := q
  cases q'; simp only [VRs] at hA; subst hA; exact ⟨rfl, er⟩
 | [], a :: args, A, e, e', tm, q, hA, er => by
  have q' : (none : Option (T AV)) = some e' := q
  cases q'
 | p :: ps, [], A, e, e', tm, q, hA, er => by
  have q' : (none : Option (T AV)) = some e' := q
  cases q'
 | p :: ps, a :: args, A, e, e', tm, q, hA, er => by
  have q' : (match Nat.ble (p + 1) sz with | true => setPs (e.set und p a) ps args sz | false => none) = some e' := q
  split at q'
  ·rename_i hd
   simp only [VRs] at hA
   obtain ⟨x, r, hx1, hr1, rfl⟩ := hA
   have her : ER ρ (e.set und p a) (tm.setIfInBounds p x) sz := by
    have := setD_ok (a := { tmps := tm, defers := [] }) (d := some p) (h := h0) (h' := h0) (e' := e.set und p a) er hx1 (by unfold setD; simp only [hd])
    exact this.2.1
   obtain ⟨h1, h2⟩ := setPs_ok q' hr1 her
   exact ⟨by simp [h1], h2⟩
  ·cases q'
omit hx in
theorem yieldA_ok {app : App} (ha : AppOk c app) {l : Nat} {args : List AV} {h h' : Heap} {v : AV} (he : yieldA c draw app lim l args h = .ok v h')
  {ρ : Map} {w : World} {A : List Value} (hr : HR ρ h w) (wf : WF h) (fr : FreeUp c ρ h) (hA : VRs ρ args A) {B N : Nat} (hl : ρ l = some (B, N)) :
  ∃ nx w1, (Instr.yield B A.toArray).run c.P w = .ok nx w1 ∧ NextOk c.P (fun z w' => ∃ ρ', Good ρ h w ρ' h' w' ∧ VR ρ' v z) nx w1 := by
 unfold yieldA at he
 split at he
 ·rename_i r hg
  obtain ⟨fn0, tm, D, M, p1, p2, p3⟩ := ALoop.get hr hl hg
  cases hps : setPs r.e r.params args r.sz with
  | none => rw [hps] at he; cases he
  | some e =>
   rw [hps] at he
   simp only [] at he
   obtain ⟨hlen, her⟩ := setPs_ok hps hA p2
   refine ⟨_, w, run_yield p1 (by simpa using hlen), ?_⟩
   cases hs : exec c draw app lim r.fn r.sz (some l) r.assign ⟨e, h, []⟩ with
   | bad l => rw [hs] at he; cases he
   | ok x s =>
    rw [hs] at he
    simp only [] at he
    split at he
    ·split at he
     ·rename_i r1 hg1
      split at he
      ·rename_i hst
       cases hs2 : exec c draw app lim r.fn r.sz (some l) r.body ⟨s.e, s.h.put l (.loop { r1 with state := .busy }), s.m⟩ with
       | bad l => rw [hs2] at he; cases he
       | ok x2 s2 =>
        rw [hs2] at he
        simp only [] at he
        split at he
        ·rename_i r2 hg2
         refine roundIn_of_wpIn trivial ?_
         have hz : (r.params.toArray.zip A.toArray).foldl (fun tmps (p : Tmp × Value) => tmps.setIfInBounds p.1 p.2) tm = (r.params.zip A).foldl (fun tmps (p : Tmp × Value) => tmps.setIfInBounds p.1 p.2) tm := by
          simp
         refine exec_ok k dc dr ha (lim := lim) (fn := r.fn) (sz := r.sz) (some l) r.assign _ _ _ hs (some B) ρ w _ _ ⟨B, N, hl, rfl⟩ hr wf fr (by rw [← hz] at her; exact her) rfl fun a1 w1 ρ1 g1 er1 mr1 => ?_
         have hl1 := g1.sub _ _ hl
         obtain ⟨fn1, tm1, D1, M1, q1, q2, q3⟩ := ALoop.get g1.hr hl1 hg1
         have g2 := Good.putBlock g1.hr g1.wf hl1 (.loop r1) (.loop { r1 with state := .busy })
          (.loop { state := .busy, pending := pendOf r1.pending, fn := fn1, tmps := tm1, params := r1.params.toArray, assign := r1.assign, body := r1.body, defers := D1 }) hg1 rfl (by simp) rfl
          (by simp only [ABR]; exact ⟨fn1, tm1, D1, M1, World.putObj_heap_same (g1.hr.lt l B N hl1), q2, q3⟩)
         refine ⟨_, run_beginRound q1 hst, ?_⟩
         have g12 := g1.trans g2
         refine exec_ok k dc dr ha (lim := lim) (fn := r.fn) (sz := r.sz) (some l) r.body _ _ _ hs2 (some B) ρ1 _ _ _ ⟨B, N, hl1, rfl⟩ g2.hr g2.wf (g12.up fr) er1 mr1 fun a2 w2 ρ2 g3 er2 mr2 => ?_
         have hl2 := g3.sub _ _ hl1
         obtain ⟨fn2, tm2, D2, M2, t1, t2, t3⟩ := ALoop.get g3.hr hl2 hg2
         have hlt := g3.hr.lt l B N hl2
         have g4 := fun (st : LoopState) (pd : Option Ex) => Good.putBlock g3.hr g3.wf hl2 (.loop r2) (.loop { r2 with state := st, pending := pd })
          (.loop { state := st, pending := pendOf pd, fn := fn2, tmps := tm2, params := r2.params.toArray, assign := r2.assign, body := r2.body, defers := D2 }) hg2 rfl (by simp) rfl
          (by simp only [ABR]; exact ⟨fn2, tm2, D2, M2, World.putObj_heap_same hlt, t2, t3⟩)
         cases x2 with
         | normal =>
          cases he
          refine ⟨_, _, run_endRound none t1, ρ2, (g12.trans g3).trans (g4 .ready none), ?_⟩
          simp only [VR]; rfl
         | exit id =>
          cases he
          refine ⟨_, _, run_endRound (some (.exit id)) t1, ρ2, (g12.trans g3).trans (g4 .done (some (.exit id))), ?_⟩
          simp only [VR]; rfl
         | ret =>
          cases he
          refine ⟨_, _, run_endRound (some .ret) t1, ρ2, (g12.trans g3).trans (g4 .done (some .ret)), ?_⟩
          simp only [VR]; rfl
        ·cases he
      ·cases he
     ·cases he
    ·cases he
 ·cases he
end
/-! ## a world that has grown -/
def ExtW (w w' : World) : Prop := Same w w' ∧ ∀ b, b < w.heap.size → w'.heap[b]? = w.heap[b]?
theorem NextOk.mono {P : Program} {R R' : Value → World → Prop} {nx : Next} {w : World} (h : NextOk P R nx w) (hr : ∀ z w', R z w' → R' z w') : NextOk P R' nx w := by
 cases nx <;> simp only [NextOk] at h ⊢
 case value v => exact hr _ _ h
 case skip => exact hr _ _ h
 case enter f args => exact CallsIn.mono h fun e w' q => by cases e <;> first | exact hr _ _ q | exact q
 case round l f tmps a b => exact RoundIn.mono h fun e w' q => by cases e <;> first | exact hr _ _ q | exact q
end Go.Px
end
section
noncomputable section
namespace Go.Px
inductive Cls where
 | pure | light | alloc | work
def cls (c : Ctx) (o : Op) : Cls :=
 match o with
 | .move _ => .pure
 | .assign _ => .pure
 | .pick .. => .pure
 | .build .. => .pure
 | .nilCheck _ => .pure
 | .binOp .. => .pure
 | .unOp .. => .pure
 | .sliceToArrayPointer .. => .pure
 | .makeInterface .. => .pure
 | .slice .. => .light
 | .fieldAddr .. => .pure
 | .field .. => .pure
 | .indexAddr .. => .pure
 | .index .. => .pure
 | .extract .. => .pure
 | .makeFunc .. => .pure
 | .load .. => .light
 | .lookup .. => .light
 | .entry _ => .light
 | .alloc _ => .alloc
 | .box .. => .alloc
 | .buildSlice .. => .alloc
 | .makeSlice .. => .alloc
 | .makeMap .. => .alloc
 | .convert _ t _ => (match c.under t with | some d => (match d with | .slice _ => .alloc | _ => .light) | none => .light)
 | .call k => (match k.callee with | .builtin b => (match b with | .len => .light | .cap => .pure | .min => .pure | .max => .pure | _ => .work) | _ => .work)
 | _ => .work
/-! ### masks of numbers -/
def bitB (m i : Nat) : Bool := Nat.beq (Nat.mod (Nat.shiftRight m i) 2) 1
theorem bitB_eq (m i : Nat) : bitB m i = m.testBit i := by
 unfold bitB
 rw [Nat.testBit_eq_decide_div_mod_eq, show Nat.shiftRight m i = m / 2 ^ i from Nat.shiftRight_eq_div_pow m i, show Nat.mod (m / 2 ^ i) 2 = m / 2 ^ i % 2 from rfl]
 by_cases h : m / 2 ^ i % 2 = 1
 ·rw [h]; rfl
 ·have : m / 2 ^ i % 2 = 0 := by omega
  rw [this]; rfl
def orB (a b : Nat) : Nat := Nat.lor a b
def bit1 (i : Nat) : Nat := Nat.shiftLeft 1 i
def inB (a b : Nat) : Bool := Nat.beq (Nat.land a b) a
theorem bit_or (a b i : Nat) : bitB (orB a b) i = (bitB a i || bitB b i) := by
 simp only [bitB_eq]; exact Nat.testBit_or a b i
theorem bit_one (k i : Nat) : bitB (bit1 k) i = decide (i = k) := by
 rw [bitB_eq]
 have : bit1 k = 2 ^ k := by unfold bit1; rw [show Nat.shiftLeft 1 k = 1 <<< k from rfl, Nat.one_shiftLeft]
 rw [this, Nat.testBit_two_pow]
 by_cases h : k = i <;> simp [h, eq_comm]
theorem bit_zero (i : Nat) : bitB 0 i = false := by rw [bitB_eq]; simp
theorem inB_spec {a b : Nat} (h : inB a b = true) {i : Nat} (hi : bitB a i = true) : bitB b i = true := by
 have h1 : Nat.land a b = a := beqT h
 rw [bitB_eq] at *
 have h2 : (a &&& b).testBit i = true := by rw [show a &&& b = Nat.land a b from rfl, h1]; exact hi
 rw [Nat.testBit_and] at h2
 simp at h2; exact h2.2
def edgeB (e : Edge) : Bool := match e.ground with | .textOnly _ => false | .gcOnly _ => false | _ => true
theorem edgeB_eq (e : Edge) : edgeB e = Region.binds .any e := by unfold edgeB Region.binds; cases e.ground <;> rfl
def nat0 (x : Option Nat) : Nat := match x with | some x => x | none => 0
def maskOf (ms : List Nat) (es : List Edge) : Nat :=
 List.rec (motive := fun _ => Nat) 0 (fun e _ r => match edgeB e with | true => orB (orB (bit1 e.on) (nat0 (nth ms e.on))) r | false => r) es
def masks (ops : List Oper) : List Nat → List Nat :=
 List.rec (motive := fun _ => List Nat → List Nat) (fun ms => ms) (fun o _ ih ms => ih (ms ++ [maskOf ms o.after.toList])) ops
def writers (ops : List Oper) : T (Option Nat) → Nat → T (Option Nat) :=
 List.rec (motive := fun _ => T (Option Nat) → Nat → T (Option Nat)) (fun t _ => t)
  (fun o _ ih t i => ih (match o.dst with | some d => t.set none d (some i) | none => t) (i + 1)) ops
structure PStep where
 i : Nat
 o : Oper
 cl : Cls
 pm : Nat
def isWork (x : Cls) : Bool := match x with | .work => true | _ => false
def takeM (pm : Nat) (l : List Oper) : Nat → Nat → List Nat × Nat :=
 List.rec (motive := fun _ => Nat → Nat → List Nat × Nat) (fun _ done => ([], done))
  (fun _ _ ih i done => match bitB pm i with
   | false => ih (i + 1) done
   | true => (match bitB done i with
    | true => ih (i + 1) done
    | false => (match ih (i + 1) (orB done (bit1 i)) with | (r, d) => (i :: r, d)))) l
def ordA (c : Ctx) (ops : List Oper) (ms : List Nat) (all : Nat) (l : List Oper) : Nat → Nat → List Nat :=
 List.rec (motive := fun _ => Nat → Nat → List Nat) (fun _ done => (takeM all ops 0 done).1)
  (fun o _ ih i done => match isWork (cls c o.op) with
   | false => ih (i + 1) done
   | true => (match takeM (orB (nat0 (nth ms i)) (bit1 i)) ops 0 done with | (r, d) => r ++ ih (i + 1) d)) l
def stepsOf (c : Ctx) (ops : List Oper) (ms : List Nat) (l : List Nat) : Option (List PStep) :=
 List.rec (motive := fun _ => Option (List PStep)) (some [])
  (fun i _ r => match nth ops i with
   | some o => (match nth ms i with
    | some pm => (match r with | some r => some (⟨i, o, cls c o.op, pm⟩ :: r) | none => none)
    | none => none)
   | none => none) l
def lookOk (ms : List Nat) (wr : T (Option Nat)) (s : PStep) (done t : Nat) : Bool :=
 match wr.get none t with
 | none => true
 | some j => (match Nat.beq j s.i with
  | true => true
  | false => (match bitB done j with
   | true => bitB s.pm j
   | false => bitB (nat0 (nth ms j)) s.i))
def looksOk (ms : List Nat) (wr : T (Option Nat)) (s : PStep) (done : Nat) (l : List Tmp) : Bool :=
 List.rec (motive := fun _ => Bool) true (fun t _ r => match lookOk ms wr s done t with | true => r | false => false) l
def tmpsOf (l : List Operand) : List Tmp :=
 List.rec (motive := fun _ => List Tmp) [] (fun x _ r => match x with | .tmp t => t :: r | _ => r) l
def guardSlot (ops : List Oper) (o : Oper) : List Tmp :=
 match o.guard with
 | none => []
 | some (j, _) => (match nth ops j with
  | some p => (match p.dst with | some d => [d] | none => [])
  | none => [])
def stepOk (ops : List Oper) (ms : List Nat) (wr : T (Option Nat)) (s : PStep) (done : Nat) : Bool :=
 match bitB done s.i with
 | true => false
 | false => (match inB s.pm done with
  | false => false
  | true => (match (match isWork s.cl with | true => inB done s.pm | false => true) with
   | false => false
   | true => (match (match s.o.dst with | some d => (match wr.get none d with | some j => Nat.beq j s.i | none => false) | none => true) with
    | false => false
    | true => (match looksOk ms wr s done (tmpsOf s.o.op.operands.toList) with
     | false => false
     | true => looksOk ms wr s done (guardSlot ops s.o)))))
def planOk (ops : List Oper) (ms : List Nat) (wr : T (Option Nat)) (all : Nat) (l : List PStep) : Nat → Bool :=
 List.rec (motive := fun _ => Nat → Bool) (fun done => Nat.beq done all)
  (fun s _ ih done => match stepOk ops ms wr s done with | true => ih (orB done (bit1 s.i)) | false => false) l
def plan (c : Ctx) (ops : List Oper) : Option (List PStep) :=
 match stepsOf c ops (masks ops []) (ordA c ops (masks ops []) (Nat.pred (bit1 ops.length)) ops 0 0) with
 | none => none
 | some l => (match planOk ops (masks ops []) (writers ops .leaf 0) (Nat.pred (bit1 ops.length)) l 0 with
  | true => some l
  | false => none)
/-! ### the plan is run -/
def agree (p : Option AV) (v : AV) : Bool := match p with | none => true | some u => (match avEq u v with | true => true | false => @decide (u = v) (Classical.propDecidable _))
theorem agree_eq {u v : AV} : agree (some u) v = true ↔ u = v := by
 unfold agree
 constructor
 ·intro h
  have h' : (match avEq u v with | true => true | false => @decide (u = v) (Classical.propDecidable _)) = true := h
  split at h'
  ·rename_i q; exact avEq_eq q
  ·exact @of_decide_eq_true _ (Classical.propDecidable _) h'
 ·rintro rfl
  show (match avEq u u with | true => true | false => @decide (u = u) (Classical.propDecidable _)) = true
  split
  ·rfl
  ·exact @decide_eq_true _ (Classical.propDecidable _) rfl
def lightV (c : Ctx) (e : T AV) (s : PStep) (bs : List (Heap × Nat)) : Option AV → Option AV :=
 List.rec (motive := fun _ => Option AV → Option AV) (fun p => p)
  (fun g _ ih p => match opA c e g.1 s.o.op with
   | some (.v v _) => (match agree p v with
    | true => (match bitB s.pm g.2 with | true => some v | false => ih (some v))
    | false => none)
   | _ => none) bs
inductive DR where
 | ok (e : T AV) (h : Heap) (bs : List (Heap × Nat))
 | bad (l : List String)
def setR (e : T AV) (d : Option Tmp) (v : AV) (sz : Nat) (h : Heap) (bs : List (Heap × Nat)) : DR :=
 match d with
 | none => .ok e h bs
 | some d => (match Nat.ble (d + 1) sz with | true => .ok (e.set und d v) h bs | false => .bad [])
def runP (c : Ctx) (app : App) (sz : Nat) (ops : List Oper) (s : PStep) (e : T AV) (h : Heap) (bs : List (Heap × Nat)) : DR :=
 match wantA ops e s.o with
 | none => .bad [s.o.pos]
 | some false => setR e s.o.dst und sz h bs
 | some true => (match s.cl with
  | .pure => (match opA c e h s.o.op with
   | some (.v v _) => setR e s.o.dst v sz h bs
   | _ => .bad [s.o.pos])
  | .light => (match lightV c e s bs none with
   | some v => setR e s.o.dst v sz h bs
   | none => .bad ["light", s.o.pos])
  | .alloc => (match opA c e h s.o.op with
   | some (.v v h') => setR e s.o.dst v sz h' bs
   | _ => .bad [s.o.pos])
  | .work => (match opA c e h s.o.op with
   | none => .bad [s.o.pos]
   | some (.v v h') => (match Nat.ble h.nxt h'.nxt with | true => setR e s.o.dst v sz h' ((h', s.i) :: bs) | false => .bad ["nxt"])
   | some (.go t args h') => (match app t args h' with
    | .ok v h'' => (match Nat.ble h.nxt h''.nxt with | true => setR e s.o.dst v sz h'' ((h'', s.i) :: bs) | false => .bad ["nxt"])
    | .bad l => .bad (s.o.pos :: l))))
def runPs (c : Ctx) (app : App) (sz : Nat) (ops : List Oper) (l : List PStep) : T AV → Heap → List (Heap × Nat) → SR :=
 List.rec (motive := fun _ => T AV → Heap → List (Heap × Nat) → SR) (fun e h _ => .ok e h)
  (fun s _ ih e h bs => match runP c app sz ops s e h bs with
   | .ok e' h' bs' => ih e' h' bs'
   | .bad l => .bad l) l
/-! ### a throw of a coin -/
def noApp : App := fun _ _ _ => .bad []
def allEq (n : Nat) (l : List Nat) : Bool := List.rec (motive := fun _ => Bool) true (fun x _ r => match Nat.beq x n with | true => r | false => false) l
def isBoolA (v : AV) : Bool := match v with | .bool _ => true | _ => false
def rootOk (g : Heap) (i : Nat) : Bool := match g.get i with | .row r => isNoneN r.root | .gl _ => false | _ => true
def coinRun (h : Heap) (y : Nat) (r : SR) : Bool :=
 match r with
 | .bad _ => false
 | .ok e g => (match isBoolA (e.get und y) with
  | false => false
  | true => (match allEq h.nxt g.log with
   | false => false
   | true => (match rootOk g h.nxt with | true => Nat.beq g.nxt (h.nxt + 1) | false => false)))
def coin4 (c : Ctx) (sz : Nat) (ops : List Oper) (o0 o1 o2 o3 : Oper) (e : T AV) (h : Heap) : Option (T AV × Heap) :=
 match natsEqB (masks ops []) [0, 1, 1, 7] with
 | false => none
 | true => (match calmOps ops with
  | false => none
  | true => (match o0.dst with
   | none => none
   | some x => (match o3.dst with
    | none => none
    | some y => (match o1.dst with
     | some _ => none
     | none => (match o2.dst with
      | some _ => none
      | none => (match coinRun h y (runOps c noApp sz ops [o0, o1, o2, o3] e h.unlog) with
       | false => none
       | true => (match coinRun h y (runOps c noApp sz ops [o0, o2, o1, o3] e h.unlog) with
        | false => none
        | true => some ((e.set und x .bad).set und y .anyb, ⟨h.nxt + 1, h.blk, h.tips, h.nxt :: h.log⟩))))))))
def coinA (c : Ctx) (sz : Nat) (ops : List Oper) (e : T AV) (h : Heap) : Option (T AV × Heap) :=
 match ops with
 | [] => none
 | o0 :: r => (match r with
  | [] => none
  | o1 :: r => (match r with
   | [] => none
   | o2 :: r => (match r with
    | [] => none
    | o3 :: r => (match r with
     | [] => coin4 c sz ops o0 o1 o2 o3 e h
     | _ :: _ => none))))
def drawA : DrawOk := fun c app sz ops e h =>
 match plan c ops with
 | none => (match coinA c sz ops e h with
  | some (e', h') => .ok e' h'
  | none => .bad ["plan"])
 | some l => runPs c app sz ops l e h [(h, ops.length)]
end Go.Px
end
section
namespace Go.Px
/-! ## an operation hangs on its operands -/
theorem evo_congr {e e' : T AV} (x : Option Operand) (H : ∀ y ∈ x, ev e y = ev e' y) : evo e x = evo e' x := by
  cases x with
  | none => rfl
  | some x => simp only [evo, H x rfl]
theorem parts_congr {e e' : T AV} (ps : Array (Nat × Operand)) (H : ∀ x ∈ (ps.toList.map (·.2)), ev e x = ev e' x) : parts e ps = parts e' ps := by
  unfold parts
  apply List.map_congr_left
  intro p hp
  rw [H p.2 (List.mem_map_of_mem hp)]
theorem evs_congr {e e' : T AV} (l : Array Operand) (H : ∀ x ∈ l.toList, ev e x = ev e' x) : l.toList.map (ev e) = l.toList.map (ev e') := List.map_congr_left H
theorem opA_congr {c : Ctx} {e e' : T AV} {h : Heap} (o : Op) (H : ∀ x ∈ o.operands.toList, ev e x = ev e' x) : opA c e h o = opA c e' h o := by
  cases o <;> simp only [opA]
  case build t ps => rw [parts_congr ps (fun x hx => H x (by simpa [Op.operands] using hx))]
  case buildSlice t n ps => rw [parts_congr ps (fun x hx => H x (by simpa [Op.operands] using hx))]
  case makeFunc f a b =>
    have h1 := evs_congr a (fun x hx => H x (by simp only [Op.operands]; simp at hx ⊢; exact .inl hx))
    have h2 := evs_congr b (fun x hx => H x (by simp only [Op.operands]; simp at hx ⊢; exact .inr hx))
    rw [h1, h2]
  case makeMap t r =>
    rw [evo_congr r (fun y hy => H y (by cases r <;> simp_all [Op.operands]))]
  case slice t x lo hi mx =>
    rw [H x (by simp [Op.operands]), evo_congr lo (fun y hy => H y (by cases lo <;> simp_all [Op.operands])), evo_congr hi (fun y hy => H y (by cases hi <;> simp_all [Op.operands])), evo_congr mx (fun y hy => H y (by cases mx <;> simp_all [Op.operands]))]
  case call cl =>
    unfold oCall
    cases hc : cl.callee with
    | builtin b => simp only []; rw [evs_congr cl.args (fun x hx => H x (by simp [Op.operands, Call.operands, hc]; simpa using hx))]
    | value f =>
      simp only []
      rw [H f (by simp [Op.operands, Call.operands, hc]), evs_congr cl.args (fun x hx => H x (by simp [Op.operands, Call.operands, hc]; simp at hx; exact .inr hx))]
    | invoke r m => rfl
  all_goals first
    | rfl
    | (simp [Op.operands] at H; simp only [H])
/-! ## pure, light, alloc -/
theorem pure_spec {c : Ctx} {e : T AV} {h h' : Heap} {o : Op} {v : AV} (hc : cls c o = .pure) (he : opA c e h o = some (.v v h')) : h' = h ∧ ∀ g, opA c e g o = some (.v v g) := by
  cases o <;> simp only [cls] at hc <;> try (cases hc; done)
  case convert s t x => split at hc <;> (try split at hc) <;> cases hc
  case call k =>
    cases hk : k.callee with
    | builtin b =>
      rw [hk] at hc
      simp only [opA, oCall, hk] at he ⊢
      cases b <;> simp only [] at hc <;> try (cases hc; done)
      all_goals
        simp only [oBuiltin] at he ⊢
        repeat' (split at he)
        all_goals first
          | (cases he; done)
          | (cases he; exact ⟨rfl, fun g => by simp only [*]⟩)
    | value f => rw [hk] at hc; cases hc
    | invoke f m => rw [hk] at hc; cases hc
  case pick b x y =>
    simp only [opA] at he ⊢
    split at he
    · rename_i bb hb; cases he; exact ⟨rfl, fun g => rfl⟩
    · cases he
  case makeFunc f a b =>
    simp only [opA] at he ⊢
    split at he
    · cases he; exact ⟨rfl, fun g => rfl⟩
    · cases he
  all_goals
    simp only [opA] at he ⊢
    first
      | (cases he; exact ⟨rfl, fun g => rfl⟩)
      | (unfold val at he ⊢; split at he
         · rename_i w hw; cases he; exact ⟨rfl, fun g => by simp only [hw]⟩
         · cases he)
def HLe (g h : Heap) : Prop := (∀ i, g.get i ≠ .none → h.get i = g.get i) ∧ (∀ q v, g.tip q = some v → h.tip q = some v)
theorem HLe.refl (g : Heap) : HLe g g := ⟨fun _ _ => rfl, fun _ _ e => e⟩
theorem HLe.trans {a b d : Heap} (x : HLe a b) (y : HLe b d) : HLe a d := ⟨fun i e => by rw [y.1 i (by rw [x.1 i e]; exact e), x.1 i e], fun q v e => y.2 q v (x.2 q v e)⟩
theorem HLe.new {h : Heap} (wf : WF h) (b : AB) : HLe h (h.new b) := by
  refine ⟨fun i e => ?_, fun _ _ e => e⟩
  rw [Heap.get_new]
  by_cases hi : i = h.nxt
  · subst hi; exact absurd (wf.fresh _ (Nat.le_refl _)) e
  · rw [if_neg hi]
theorem HLe.row {g h : Heap} (x : HLe g h) {i : Nat} {r : Row} (e : g.row i = some r) : h.row i = some r := by
  obtain ⟨a, b⟩ := Heap.row_get e
  have h1 : h.get i = .row r := by rw [x.1 i (by rw [a]; simp), a]
  rw [Heap.row_of h1]
  rw [Heap.row_of a] at e
  cases hr : r.root with
  | none => rfl
  | some q =>
    rw [hr] at e
    simp only [] at e ⊢
    cases ht : g.tip q with
    | none => rw [ht] at e; cases e
    | some t => rw [x.2 q t ht]
theorem load_mono {c : Ctx} {g h : Heap} (x : HLe g h) {t : TypeId} {a v : AV} (e : oLoad c g t a = some v) : oLoad c h t a = some v := by
  unfold oLoad at e ⊢
  cases a with
  | ptr id off =>
    simp only [] at e ⊢
    cases hr : g.row id with
    | none => rw [hr] at e; cases e
    | some r => rw [x.row hr]; rw [hr] at e; exact e
  | gptr g' off =>
    simp only [] at e ⊢
    cases hr : glRow g g' with
    | none => rw [hr] at e; cases e
    | some r =>
      have : glRow h g' = some r := by
        unfold glRow at hr ⊢
        split at hr
        · rename_i s hs
          rw [x.1 g' (by rw [hs]; simp), hs]; exact hr
        · cases hr
      rw [this]; rw [hr] at e; exact e
  | rptr l => exact e
  | optr i n off =>
    simp only [] at e ⊢
    cases hb : g.get i with
    | arr t z n' l =>
      rw [x.1 i (by rw [hb]; simp), hb]; rw [hb] at e; exact e
    | _ => rw [hb] at e; cases e
  | _ => cases e
theorem get_mono {g h : Heap} (x : HLe g h) {i : Nat} {b : AB} (hb : b ≠ .none) (e : g.get i = b) : h.get i = b := by rw [x.1 i (by rw [e]; exact hb), e]
theorem len_mono {c : Ctx} {g h : Heap} (x : HLe g h) {t : TypeId} {y v : AV} (hu : oLen c g t y = some v) : oLen c h t y = some v := by
  unfold oLen at hu ⊢
  split at hu <;> try exact hu
  split at hu
  · split at hu
    · split at hu
      · rename_i es cl hg
        rw [get_mono x (by simp) hg]; exact hu
      · cases hu
    · cases hu
  · cases hu
theorem cutFar_mono {c : Ctx} {g h : Heap} (x : HLe g h) {t : TypeId} {a v : AV} {lo hi mx : Option AV} (e : cutFar c g t a lo hi mx = some v) : cutFar c h t a lo hi mx = some v := by
  cases a with
  | sl id off len cap z =>
    cases hr : g.row id with
    | none =>
      unfold cutFar at e
      simp only [hr] at e
      repeat' (split at e)
      all_goals cases e
    | some r =>
      have hr' := x.row hr
      unfold cutFar at e ⊢
      simp only [hr] at e
      simp only [hr']
      exact e
  | _ => cases e
theorem sliceH_mono {c : Ctx} {g h : Heap} (x : HLe g h) {t : TypeId} {a v : AV} {lo hi mx : Option AV} (e : oSliceH c g t a lo hi mx = some v) : oSliceH c h t a lo hi mx = some v := by
  unfold oSliceH at e ⊢
  split at e
  · exact e
  · exact cutFar_mono x e
theorem convToU_mono {c : Ctx} {g h : Heap} (x : HLe g h) {ds : TypeDesc} {a v : AV} (e : convToU c g ds a = some v) : convToU c h ds a = some v := by
  unfold convToU at e ⊢
  cases ds with
  | pointer el =>
    cases a with
    | ptr id off =>
      simp only [] at e ⊢
      cases hr : g.row id with
      | none => rw [hr] at e; cases e
      | some r => rw [x.row hr]; rw [hr] at e; exact e
    | _ => exact e
  | _ => cases e
theorem convToP_mono {c : Ctx} {g h : Heap} (x : HLe g h) {ds : TypeDesc} {u : TypeId} {a v : AV} (e : convToP c g ds u a = some v) : convToP c h ds u a = some v := by
  unfold convToP at e ⊢
  cases ds with
  | unsafePointer =>
    cases a with
    | ptr id off =>
      simp only [] at e ⊢
      cases hr : g.row id with
      | none => rw [hr] at e; cases e
      | some r => rw [x.row hr]; rw [hr] at e; exact e
    | _ => exact e
  | _ => cases e
theorem light_mono {c : Ctx} {e : T AV} {g g' h : Heap} (x : HLe g h) {o : Op} {v : AV} (hc : cls c o = .light) (he : opA c e g o = some (.v v g')) : opA c e h o = some (.v v h) := by
  cases o <;> simp only [cls] at hc <;> try (cases hc; done)
  case load t a =>
    simp only [opA] at he ⊢
    obtain ⟨q1, q2⟩ := val_eq he
    rw [load_mono x q1]; rfl
  case slice t a lo hi mx =>
    simp only [opA] at he ⊢
    obtain ⟨q1, q2⟩ := val_eq he
    have : oSliceH c h t (ev e a) (evo e lo) (evo e hi) (evo e mx) = some v := sliceH_mono x q1
    rw [this]; rfl
  case lookup t a b ok =>
    simp only [opA] at he ⊢
    obtain ⟨q1, q2⟩ := val_eq he
    have : oLookup c h t (ev e a) (ev e b) ok = some v := by
      unfold oLookup at q1 ⊢
      split at q1
      · split at q1
        · split at q1
          · cases q1
          · skip
            cases hl : lookFind g (ev e a) (ev e b) with
            | none => rw [hl] at q1; cases q1
            | some r =>
              have : lookFind h (ev e a) (ev e b) = some r := by
                unfold lookFind at hl ⊢
                split at hl
                · exact hl
                · rename_i id
                  split at hl
                  · rename_i es cl hg
                    rw [get_mono x (by simp) hg]; exact hl
                  · cases hl
                · cases hl
              rw [this]; rw [hl] at q1; exact q1
        · cases q1
      · cases q1
    rw [this]; rfl
  case entry a =>
    simp only [opA] at he ⊢
    obtain ⟨q1, q2⟩ := val_eq he
    have : oEntry h (ev e a) = some v := by
      unfold oEntry at q1 ⊢
      split at q1
      · split at q1
        · cases q1
        · skip
          split at q1
          · rename_i m s seen last hg
            rw [get_mono x (by simp) hg]
            simp only []
            split at q1
            · cases q1
            · rename_i m
              skip
              split at q1
              · rename_i es cl hg2
                rw [get_mono x (by simp) hg2]
                exact q1
              · cases q1
          · cases q1
      · cases q1
    rw [this]; rfl
  case convert s t a =>
    simp only [opA] at he ⊢
    have hq := valH_eq he
    have : oConvert c h s t (ev e a) = some (v, h) := by
      unfold oConvert at hq ⊢
      split at hq
      · cases hq
      · rename_i ds hds
        split at hq
        · cases hq
        · rename_i dt hdt
          rw [hdt] at hc
          split at hq
          · split at hq
            · cases hq; rfl
            · cases hq
          · split at hq
            · rename_i u hu
              rw [convToU_mono x hu]; cases hq; rfl
            · cases hq
          · split at hq
            · rename_i u hu
              rw [convToP_mono x hu]; cases hq; rfl
            · cases hq
          · split at hq
            · split at hq
              · cases hq; rfl
              · cases hq
            · split at hq
              · skip
                split at hq
                · split at hq
                  · split at hq
                    · cases hq; rfl
                    · cases hq; rfl
                    · split at hq
                      · split at hq
                        · cases hq; rfl
                        · cases hq
                      · cases hq
                    · split at hq
                      · skip
                        split at hq
                        · rename_i r hr
                          rw [x.row hr]
                          simp only []
                          split at hq
                          · skip
                            split at hq
                            · cases hq; rfl
                            · cases hq
                          · cases hq
                        · cases hq
                      · cases hq
                    · cases hq
                  · cases hq
                · cases hq
              · cases hq
            · cases hq
          · cases hc
          · cases hq
    rw [this]; rfl
  case call k =>
    cases hk : k.callee with
    | builtin b =>
      rw [hk] at hc
      simp only [opA, oCall, hk] at he ⊢
      cases b <;> simp only [] at hc <;> try (cases hc; done)
      simp only [oBuiltin] at he ⊢
      split at he
      · split at he
        · rename_i t ht
          skip
          split at he
          · rename_i u hu
            cases he
            rw [len_mono x hu]
          · cases he
        · cases he
      · cases he
    | value f => rw [hk] at hc; cases hc
    | invoke f m => rw [hk] at hc; cases hc
def AlOk (b : AB) : Prop := match b with | .row r => r.root = none | .gl _ => False | .arr _ _ _ _ => False | _ => True
theorem AlOk.arr {b : AB} (h : AlOk b) : b.isArr = false := by cases b <;> first | rfl | exact h.elim
theorem AlOk.row {b : AB} (h : AlOk b) : ∀ r, b = .row r → r.root = none := fun r e => by subst e; exact h
theorem AlOk.gl {b : AB} (h : AlOk b) : ∀ r, b ≠ .gl r := fun r e => by subst e; exact h
def AllocOk (c : Ctx) (e : T AV) (h h' : Heap) (o : Op) (v : AV) : Prop :=
  ∃ b, h' = h.new b ∧ AlOk b ∧ b ≠ .none ∧ ∀ g, g.nxt = h.nxt → opA c e g o = some (.v v (g.new b))
theorem box_spec {h h' : Heap} {t : TypeId} {a v : AV} (e : oBox h t a = some (v, h')) : ∃ b, h' = h.new b ∧ AlOk b ∧ b ≠ .none ∧ ∀ g, g.nxt = h.nxt → oBox g t a = some (v, g.new b) := by
  unfold oBox at e ⊢
  cases a <;> simp only [] at e ⊢ <;> try (cases e; done)
  all_goals (cases e; exact ⟨_, rfl, (show AlOk _ from rfl), by simp, fun g hg => by simp only [hg]; rfl⟩)
theorem alloc_spec {c : Ctx} {e : T AV} {h h' : Heap} {o : Op} {v : AV} (hc : cls c o = .alloc) (he : opA c e h o = some (.v v h')) : AllocOk c e h h' o v := by
  unfold AllocOk
  cases o <;> simp only [cls] at hc <;> try (cases hc; done)
  case alloc t =>
    simp only [opA] at he ⊢
    have hq := valH_eq he
    unfold oAlloc at hq ⊢
    split at hq
    · obtain ⟨b, q1, q2, q3, q4⟩ := box_spec hq
      exact ⟨b, q1, q2, q3, fun g hg => by rw [q4 g hg]; rfl⟩
    · cases hq
  case box t x =>
    simp only [opA] at he ⊢
    obtain ⟨b, q1, q2, q3, q4⟩ := box_spec (valH_eq he)
    exact ⟨b, q1, q2, q3, fun g hg => by rw [q4 g hg]; rfl⟩
  case buildSlice t n ps =>
    simp only [opA] at he ⊢
    have hq := valH_eq he
    unfold oBuildSlice at hq ⊢
    repeat' (split at hq)
    all_goals first
      | (cases hq; done)
      | (cases hq; exact ⟨_, rfl, (show AlOk _ from rfl), by simp, fun g hg => by simp only [*]; rfl⟩)
  case makeSlice t l kk =>
    simp only [opA] at he ⊢
    have hq := valH_eq he
    unfold oMakeSlice at hq ⊢
    repeat' (split at hq)
    all_goals first
      | (cases hq; done)
      | (cases hq; exact ⟨_, rfl, (show AlOk _ from rfl), by simp, fun g hg => by simp only [*]; rfl⟩)
  case makeMap t r =>
    simp only [opA] at he ⊢
    have hq := valH_eq he
    unfold oMakeMap at hq ⊢
    repeat' (split at hq)
    all_goals first
      | (cases hq; done)
      | (cases hq; exact ⟨_, rfl, (show AlOk _ from trivial), by simp, fun g hg => by simp only [*]; rfl⟩)
  case convert s t a =>
    simp only [opA] at he ⊢
    have hq := valH_eq he
    unfold oConvert at hq ⊢
    split at hq
    · cases hq
    · rename_i ds hds
      split at hq
      · cases hq
      · rename_i dt hdt
        rw [hdt] at hc
        cases dt <;> simp only [] at hc hq ⊢ <;> try (cases hc; done)
        repeat' (split at hq)
        all_goals first
          | (cases hq; done)
          | (cases hq; exact ⟨_, rfl, (show AlOk _ from rfl), by simp, fun g hg => by simp only [*]; rfl⟩)
  case call k =>
    cases hk : k.callee with
    | builtin b => rw [hk] at hc; cases b <;> cases hc
    | value f => rw [hk] at hc; cases hc
    | invoke f m => rw [hk] at hc; cases hc
/-! ## the same value -/
/-! ## a world that has grown; a block that is taken in -/
theorem Good.adopt {ρ0 ρ : Map} {h0 h : Heap} {w0 w : World} (g : Good ρ0 h0 w0 ρ h w) (fr : ρ h.nxt = none) (b : AB) {B N : Nat} (hb : ∀ r, b = .row r → r.root = none) (hlt : B < w.heap.size) (hge : w0.heap.size ≤ B)
    (hun : ∀ j M, ρ j ≠ some (B, M)) (ha : ABR (upd ρ h.nxt (B, N)) b B N w) (hF : ρ.F B = []) (har : b.isArr = false) (hgl : ∀ r, b ≠ .gl r := by intro _ q; cases q) : Good ρ0 h0 w0 (upd ρ h.nxt (B, N)) (h.new b) w := by
  have hr := g.hr
  have wf := g.wf
  have hs : Sub ρ (upd ρ h.nxt (B, N)) := upd_sub fr
  have hg : ∀ j, j ≠ h.nxt → (h.new b).get j = h.get j := fun j k => by rw [Heap.get_new, if_neg k]
  have ho : ∀ j, j ≠ h.nxt → ((h.new b).ok j ↔ h.ok j) := fun j k => Heap.ok_same (hg j k) (fun _ _ _ _ => rfl)
  have hn : (h.new b).get h.nxt = b := by rw [Heap.get_new, if_pos rfl]
  have hnn := g.nxt
  refine { fold := g.fold, V := g.V, sub := g.sub.trans hs, hr := ⟨?_, ?_, ?_, ?_, hr.fz, ?_, ?_⟩, wf := ⟨?_, ?_, ?_, ?_⟩, nxt := Nat.le_succ_of_le g.nxt, dom := ?_, full := ?_, same := g.same, frame := g.frame, dead := ?_, newb := ?_, free := ?_, gl := fun j r q => (by rw [hg j (fun k => by subst k; have := g.gl _ r q; rw [wf.fresh _ (Nat.le_refl _)] at this; cases this)]; exact g.gl j r q), glw := g.glw }
  · intro i C M e
    by_cases k : i = h.nxt
    · subst k; rw [upd_same] at e; cases e; exact hlt
    · rw [upd_ne _ _ k] at e; exact hr.lt i C M e
  · intro i C M e k
    by_cases hi : i = h.nxt
    · subst hi; rw [upd_same] at e; cases e; rw [hn]; exact ha
    · rw [upd_ne _ _ hi] at e
      rw [hg i hi]
      exact (hr.ok i C M e ((ho i hi).1 k)).mono hs
  · intro i j C M M' hij e1 e2 k1 k2
    by_cases hi : i = h.nxt
    · subst hi; rw [upd_same] at e1; cases e1
      rw [upd_ne _ _ (Ne.symm hij)] at e2
      exact absurd e2 (hun j M')
    · by_cases hj : j = h.nxt
      · subst hj; rw [upd_same] at e2; cases e2
        rw [upd_ne _ _ hi] at e1
        exact absurd e1 (hun i M)
      · rw [upd_ne _ _ hi] at e1
        rw [upd_ne _ _ hj] at e2
        obtain ⟨r, s, q, a, b, d⟩ := hr.inj i j C M M' hij e1 e2 ((ho i hi).1 k1) ((ho j hj).1 k2)
        exact ⟨r, s, q, by rw [hg i hi]; exact a, by rw [hg j hj]; exact b, d⟩
  · intro i r e
    by_cases hi : i = h.nxt
    · subst hi; rw [hn] at e; exact absurd e (hgl r)
    · rw [hg i hi] at e
      obtain ⟨M, hM⟩ := hr.gl i r e
      exact ⟨M, hs i _ hM⟩
  · intro i C M e k
    by_cases hi : i = h.nxt
    · subst hi; rw [upd_same] at e; cases e; exact .inl hF
    · rw [upd_ne _ _ hi] at e
      rw [hg i hi]; exact hr.sep i C M e ((ho i hi).1 k)
  · intro i t z n l e
    by_cases hi : i = h.nxt
    · subst hi; rw [hn] at e; exact absurd e (AB.noArr har _ _ _ _)
    · rw [hg i hi] at e; exact (hr.av i t z n l e).mono hs
  · intro i hi
    have hi' : h.nxt + 1 ≤ i := hi
    rw [hg i (by omega)]; exact wf.fresh i (by omega)
  · intro i r q e1 e2
    by_cases hi : i = h.nxt
    · subst hi; rw [hn] at e1; rw [hb r e1] at e2; cases e2
    · rw [hg i hi] at e1; exact Nat.lt_succ_of_lt (wf.root i r q e1 e2)
  · intro i r q t e1 e2 e3
    by_cases hi : i = h.nxt
    · subst hi; rw [hn] at e1; rw [hb r e1] at e2; cases e2
    · rw [hg i hi] at e1
      obtain ⟨s, a, d⟩ := wf.tip i r q t e1 e2 e3
      refine ⟨s, ?_, d⟩
      rw [hg t (fun k => by subst k; rw [wf.fresh _ (Nat.le_refl _)] at a; cases a)]; exact a
  · intro q hq; exact wf.tipr q (Nat.le_of_succ_le hq)
  · intro i p e
    by_cases hi : i = h.nxt
    · subst hi; exact .inr ⟨g.nxt, Nat.lt_succ_self _⟩
    · rw [upd_ne _ _ hi] at e
      rcases g.dom i p e with q | ⟨q1, q2⟩
      · exact .inl q
      · exact .inr ⟨q1, Nat.lt_succ_of_lt q2⟩
  · intro i e1 e2
    have e2' : i < h.nxt + 1 := e2
    by_cases hi : i = h.nxt
    · subst hi; rw [upd_same]; rfl
    · rw [upd_ne _ _ hi]; exact g.full i e1 (by omega)
  · intro i e1 e2
    have e1' : ¬ (h0.nxt ≤ i ∧ i < h.nxt + 1) := e1
    have hi : i ≠ h.nxt := fun k => e1' ⟨by omega, by omega⟩
    exact fun k => g.dead i (fun hh => e1' ⟨hh.1, by omega⟩) e2 ((ho i hi).1 k)
  · intro i C M e1 e2
    by_cases hi : i = h.nxt
    · subst hi; rw [upd_same] at e1; cases e1; exact .inl hge
    · rw [upd_ne _ _ hi] at e1; exact g.newb i C M e1 e2
  · intro i e1 e2
    have e2' : i < h.nxt + 1 := e2
    by_cases hi : i = h.nxt
    · subst hi
      cases hq : ρ0 h.nxt with
      | none => rfl
      | some p => rw [g.sub _ _ hq] at fr; cases fr
    · exact g.free i e1 (by omega)
end Go.Px
end
section
namespace Go.Px
/-! ## maps cut off -/
def cut (σ : Map) (x : Nat) : Map := ⟨fun i => if i < x then σ i else none, σ.F, σ.V⟩
theorem cut_lt {σ : Map} {x i : Nat} (h : i < x) : cut σ x i = σ i := by
 show (if i < x then σ i else none) = _
 rw [if_pos h]
theorem cut_ge {σ : Map} {x i : Nat} (h : x ≤ i) : cut σ x i = none := by
 show (if i < x then σ i else none) = _
 rw [if_neg (by omega)]
theorem cut_mono (σ : Map) {x y : Nat} (h : x ≤ y) : Sub (cut σ x) (cut σ y) := ⟨(fun i p e => by
 by_cases hi : i < x
 ·rw [cut_lt hi] at e; rw [cut_lt (by omega)]; exact e
 ·rw [cut_ge (by omega)] at e; cases e), fun _ _ _ e => e, fun _ _ _ e => e⟩
theorem cut_sub (σ : Map) (x : Nat) : Sub (cut σ x) σ := ⟨(fun i p e => by
 by_cases hi : i < x
 ·rw [cut_lt hi] at e; exact e
 ·rw [cut_ge (by omega)] at e; cases e), fun _ _ _ e => e, fun _ _ _ e => e⟩
theorem cut_sub2 {σ τ : Map} (h : Sub σ τ) (x : Nat) : Sub (cut σ x) (cut τ x) := ⟨(fun i p e => by
 by_cases hi : i < x
 ·rw [cut_lt hi] at *; exact h i p e
 ·rw [cut_ge (by omega)] at e; cases e), h.F, h.V⟩
theorem Map.same {ρ σ : Map} (h : ∀ i, ρ i = σ i) (k : ρ.F = σ.F) (v : ρ.V = σ.V) : ρ = σ := by
 obtain ⟨a, b, e⟩ := ρ
 obtain ⟨c, d, f⟩ := σ
 have h1 : a = c := funext h
 have h2 : b = d := k
 have h3 : e = f := v
 rw [h1, h2, h3]
/-! ## masks -/
theorem maskOf_spec (ms : List Nat) (j : Nat) : ∀ es : List Edge, bitB (maskOf ms es) j = true ↔ ∃ ed ∈ es, edgeB ed = true ∧ (j = ed.on ∨ bitB (nat0 (nth ms ed.on)) j = true)
 | [] => by
  rw [show maskOf ms [] = 0 from rfl, bit_zero]; simp
 | e :: es => by
  rw [show maskOf ms (e :: es) = (match edgeB e with | true => orB (orB (bit1 e.on) (nat0 (nth ms e.on))) (maskOf ms es) | false => maskOf ms es) from rfl]
  cases he : edgeB e with
  | false =>
   simp only []
   rw [maskOf_spec ms j es]
   constructor
   ·rintro ⟨ed, h1, h2⟩; exact ⟨ed, List.mem_cons_of_mem _ h1, h2⟩
   ·rintro ⟨ed, h1, h2, h3⟩
    rcases List.mem_cons.1 h1 with rfl | h1
    ·rw [he] at h2; cases h2
    ·exact ⟨ed, h1, h2, h3⟩
  | true =>
   simp only []
   rw [bit_or, bit_or, bit_one, Bool.or_eq_true, Bool.or_eq_true, decide_eq_true_eq, maskOf_spec ms j es]
   constructor
   ·rintro ((h | h) | ⟨ed, h1, h2⟩)
    ·exact ⟨e, List.mem_cons_self, he, .inl h⟩
    ·exact ⟨e, List.mem_cons_self, he, .inr h⟩
    ·exact ⟨ed, List.mem_cons_of_mem _ h1, h2⟩
   ·rintro ⟨ed, h1, h2, h3⟩
    rcases List.mem_cons.1 h1 with rfl | h1
    ·rcases h3 with h3 | h3
     ·exact .inl (.inl h3)
     ·exact .inl (.inr h3)
    ·exact .inr ⟨ed, h1, h2, h3⟩
theorem masks_cons (o : Oper) (l : List Oper) (ms : List Nat) : masks (o :: l) ms = masks l (ms ++ [maskOf ms o.after.toList]) := rfl
theorem masks_pre : ∀ (l : List Oper) (ms : List Nat), ∃ r, masks l ms = ms ++ r
 | [], ms => ⟨[], by rw [List.append_nil]; rfl⟩
 | o :: l, ms => by
  obtain ⟨r, h⟩ := masks_pre l (ms ++ [maskOf ms o.after.toList])
  exact ⟨[maskOf ms o.after.toList] ++ r, by rw [masks_cons, h, List.append_assoc]⟩
theorem masks_at : ∀ (l : List Oper) (ms : List Nat) (i : Nat) (o : Oper), l[i]? = some o → ∃ n r, masks l ms = n ++ r ∧ n.length = ms.length + i ∧ (masks l ms)[ms.length + i]? = some (maskOf n o.after.toList)
 | [], ms, i, o, h => by simp at h
 | x :: l, ms, 0, o, h => by
  simp at h; subst h
  obtain ⟨r, hr⟩ := masks_pre l (ms ++ [maskOf ms x.after.toList])
  refine ⟨ms, [maskOf ms x.after.toList] ++ r, by rw [masks_cons, hr, List.append_assoc], rfl, ?_⟩
  rw [masks_cons, hr, List.append_assoc, Nat.add_zero]
  simp
 | x :: l, ms, i + 1, o, h => by
  simp at h
  obtain ⟨n, r, h1, h2, h3⟩ := masks_at l (ms ++ [maskOf ms x.after.toList]) i o h
  refine ⟨n, r, by rw [masks_cons]; exact h1, by rw [h2]; simp; omega, ?_⟩
  rw [masks_cons, ← h3]
  congr 1
  simp; omega
/-! ## what is known of a plan -/
def doneM (L : List PStep) (m : Nat) : Nat := (L.take m).foldl (fun d s => orB d (bit1 s.i)) 0
theorem foldl_bits (L : List PStep) : ∀ d j, bitB (L.foldl (fun d s => orB d (bit1 s.i)) d) j = true ↔ bitB d j = true ∨ ∃ s ∈ L, s.i = j := by
 induction L with
 | nil => intro d j; simp
 | cons s L ih =>
  intro d j
  rw [List.foldl_cons, ih, bit_or, bit_one, Bool.or_eq_true, decide_eq_true_eq]
  constructor
  ·rintro ((h | h) | ⟨x, h1, h2⟩)
   ·exact .inl h
   ·exact .inr ⟨s, List.mem_cons_self, h.symm⟩
   ·exact .inr ⟨x, List.mem_cons_of_mem _ h1, h2⟩
  ·rintro (h | ⟨x, h1, h2⟩)
   ·exact .inl (.inl h)
   ·rcases List.mem_cons.1 h1 with rfl | h1
    ·exact .inl (.inr h2.symm)
    ·exact .inr ⟨x, h1, h2⟩
theorem doneM_spec (L : List PStep) (m j : Nat) : bitB (doneM L m) j = true ↔ ∃ m' s, m' < m ∧ L[m']? = some s ∧ s.i = j := by
 unfold doneM
 rw [foldl_bits, bit_zero]
 constructor
 ·rintro (h | ⟨s, h1, h2⟩)
  ·cases h
  ·obtain ⟨i, hi⟩ := List.getElem?_of_mem h1
   rw [List.getElem?_take] at hi
   split at hi
   ·exact ⟨i, s, by assumption, hi, h2⟩
   ·cases hi
 ·rintro ⟨m', s, h1, h2, h3⟩
  refine .inr ⟨s, ?_, h3⟩
  apply List.mem_of_getElem? (i := m')
  rw [List.getElem?_take, if_pos h1]; exact h2
structure Static (c : Ctx) (ops : Array Oper) (ms : List Nat) (wr : T (Option Nat)) (L : List PStep) : Prop where
 at_ : ∀ (m : Nat) (s : PStep), L[m]? = some s → ops[s.i]? = some s.o ∧ nth ms s.i = some s.pm ∧ s.cl = cls c s.o.op
 ok : ∀ (m : Nat) (s : PStep), L[m]? = some s → stepOk ops.toList ms wr s (doneM L m) = true
 mask : ∀ (i : Nat) (o : Oper) (pm : Nat), ops[i]? = some o → nth ms i = some pm → ∀ j, bitB pm j = true → ∃ ed ∈ o.after, Region.binds .any ed = true ∧ (j = ed.on ∨ bitB (nat0 (nth ms ed.on)) j = true)
 mask2 : ∀ (i : Nat) (o : Oper) (pm : Nat), ops[i]? = some o → nth ms i = some pm → ∀ ed ∈ o.after, Region.binds .any ed = true → bitB pm ed.on = true
theorem stepsOf_spec {c : Ctx} {ops : List Oper} {ms : List Nat} : ∀ {l : List Nat} {L : List PStep}, stepsOf c ops ms l = some L → ∀ s ∈ L, nth ops s.i = some s.o ∧ nth ms s.i = some s.pm ∧ s.cl = cls c s.o.op
 | [], L, h, s, hs => by cases h; cases hs
 | i :: l, L, h, s, hs => by
  have h' : (match nth ops i with
   | some o => (match nth ms i with
    | some pm => (match stepsOf c ops ms l with | some r => some (⟨i, o, cls c o.op, pm⟩ :: r) | none => none)
    | none => none)
   | none => none) = some L := h
  cases h1 : nth ops i with
  | none => rw [h1] at h'; cases h'
  | some o =>
   rw [h1] at h'
   simp only [] at h'
   cases h2 : nth ms i with
   | none => rw [h2] at h'; cases h'
   | some pm =>
    rw [h2] at h'
    simp only [] at h'
    cases h3 : stepsOf c ops ms l with
    | none => rw [h3] at h'; cases h'
    | some r =>
     rw [h3] at h'; cases h'
     rcases List.mem_cons.1 hs with rfl | hs
     ·exact ⟨h1, h2, rfl⟩
     ·exact stepsOf_spec h3 s hs
theorem planOk_spec {ops : List Oper} {ms : List Nat} {wr : T (Option Nat)} {all : Nat} : ∀ {L : List PStep} {d : Nat}, planOk ops ms wr all L d = true →
  (∀ m s, L[m]? = some s → stepOk ops ms wr s ((L.take m).foldl (fun d s => orB d (bit1 s.i)) d) = true) ∧ L.foldl (fun d s => orB d (bit1 s.i)) d = all
 | [], d, h => ⟨fun m s e => by simp at e, beqT h⟩
 | s :: L, d, h => by
  have h' : (match stepOk ops ms wr s d with | true => planOk ops ms wr all L (orB d (bit1 s.i)) | false => false) = true := h
  split at h'
  ·rename_i h0
   obtain ⟨h1, h2⟩ := planOk_spec h'
   refine ⟨fun m x e => ?_, h2⟩
   cases m with
   | zero => simp at e; subst e; exact h0
   | succ m => simp at e; simpa using h1 m x e
  ·cases h'
def Cover (p : Nat) (L : List PStep) : Prop := ∀ i, i < p → ∃ (m : Nat) (s : PStep), L[m]? = some s ∧ s.i = i
theorem plan_static {c : Ctx} {ops : Array Oper} {L : List PStep} (h : plan c ops.toList = some L) : Static c ops (masks ops.toList []) (writers ops.toList .leaf 0) L ∧ Cover ops.size L := by
 unfold plan at h
 split at h
 ·cases h
 ·rename_i l hl
  split at h
  ·rename_i hp
   cases h
   obtain ⟨h1, h2⟩ := planOk_spec hp
   have hat : ∀ i : Nat, ops.toList[i]? = ops[i]? := fun i => by simp
   have hmask : ∀ (i : Nat) o pm, ops[i]? = some o → nth (masks ops.toList []) i = some pm → ∃ n r, masks ops.toList [] = n ++ r ∧ pm = maskOf n o.after.toList := fun i o pm q1 q2 => by
    obtain ⟨n, r, a, b, d⟩ := masks_at ops.toList [] i o (by rw [hat]; exact q1)
    rw [nth_eq] at q2
    simp at d
    rw [q2] at d; cases d
    exact ⟨n, r, a, rfl⟩
   refine ⟨⟨fun m s e => ?_, fun m s e => h1 m s e, fun i o pm q1 q2 j hj => ?_, fun i o pm q1 q2 ed he hb => ?_⟩, fun i hi => ?_⟩
   ·obtain ⟨a, b, d⟩ := stepsOf_spec hl s (List.mem_of_getElem? e)
    rw [nth_eq, hat] at a
    exact ⟨a, b, d⟩
   ·obtain ⟨n, r, a, rfl⟩ := hmask i o pm q1 q2
    obtain ⟨ed, e1, e2, e3⟩ := (maskOf_spec n j _).1 hj
    refine ⟨ed, by simpa using e1, by rw [← edgeB_eq]; exact e2, ?_⟩
    rcases e3 with e3 | e3
    ·exact .inl e3
    ·right
     cases hn : nth n ed.on with
     | none => rw [hn, show nat0 none = 0 from rfl, bit_zero] at e3; cases e3
     | some y =>
      rw [hn] at e3
      have : nth (masks ops.toList []) ed.on = some y := by
       rw [a, nth_eq, List.getElem?_append_left (by rw [nth_eq] at hn; exact (List.getElem?_eq_some_iff.1 hn).1), ← nth_eq]; exact hn
      rw [this]; exact e3
   ·obtain ⟨n, r, a, rfl⟩ := hmask i o pm q1 q2
    exact (maskOf_spec n ed.on _).2 ⟨ed, by simpa using he, by rw [edgeB_eq]; exact hb, .inl rfl⟩
   ·have : bitB (L.foldl (fun d s => orB d (bit1 s.i)) 0) i = true := by
     rw [h2, bitB_eq]
     have e1 : Nat.pred (bit1 ops.toList.length) = 2 ^ ops.size - 1 := by
      unfold bit1
      rw [show Nat.shiftLeft 1 ops.toList.length = 1 <<< ops.toList.length from rfl, Nat.one_shiftLeft]
      simp [Nat.pred_eq_sub_one]
     rw [e1, Nat.testBit_two_pow_sub_one]
     simpa using hi
    rw [foldl_bits, bit_zero] at this
    rcases this with q | ⟨s, q1, q2⟩
    ·cases q
    ·obtain ⟨m, hm⟩ := List.getElem?_of_mem q1
     exact ⟨m, s, hm, q2⟩
  ·cases h
/-! ## what a step comes to -/
structure Trace (c : Ctx) (app : App) (sz : Nat) (ops : Array Oper) (L : List PStep) where
 E : Nat → T AV
 H : Nat → Heap
 B : Nat → List (Heap × Nat)
 step : ∀ (m : Nat) (s : PStep), L[m]? = some s → runP c app sz ops.toList s (E m) (H m) (B m) = .ok (E (m + 1)) (H (m + 1)) (B (m + 1))
theorem trace_of {c : Ctx} {app : App} {sz : Nat} {ops : Array Oper} : ∀ {L : List PStep} {e e' : T AV} {h h' : Heap} {bs : List (Heap × Nat)}, runPs c app sz ops.toList L e h bs = .ok e' h' →
  ∃ t : Trace c app sz ops L, t.E 0 = e ∧ t.H 0 = h ∧ t.B 0 = bs ∧ t.E L.length = e' ∧ t.H L.length = h'
 | [], e, e', h, h', bs, q => by
  cases q
  exact ⟨⟨fun _ => e, fun _ => h, fun _ => bs, fun m s hs => by simp at hs⟩, rfl, rfl, rfl, rfl, rfl⟩
 | s :: L, e, e', h, h', bs, q => by
  have q' : (match runP c app sz ops.toList s e h bs with
   | .ok e' h' bs' => runPs c app sz ops.toList L e' h' bs'
   | .bad l => .bad l) = SR.ok e' h' := q
  cases hr : runP c app sz ops.toList s e h bs with
  | bad l => rw [hr] at q'; cases q'
  | ok e1 h1 b1 =>
   rw [hr] at q'
   obtain ⟨t, t1, t2, t3, t4, t5⟩ := trace_of q'
   refine ⟨⟨fun m => match m with | 0 => e | m + 1 => t.E m, fun m => match m with | 0 => h | m + 1 => t.H m, fun m => match m with | 0 => bs | m + 1 => t.B m, fun m x hx => ?_⟩, rfl, rfl, rfl, t4, t5⟩
   cases m with
   | zero => simp at hx; subst hx; simp only [t1, t2, t3]; exact hr
   | succ m => simp at hx; exact t.step m x hx
inductive StepRes (c : Ctx) (app : App) (ops : Array Oper) (s : PStep) (E : T AV) (H : Heap) (B : List (Heap × Nat)) (v : AV) (H' : Heap) (B' : List (Heap × Nat)) : Prop
 | un (h1 : wantA ops.toList E s.o = some false) (h2 : v = und) (h3 : H' = H) (h4 : B' = B)
 | pure (h1 : wantA ops.toList E s.o = some true) (h2 : s.cl = .pure) (h5 : ∃ h1, opA c E H s.o.op = some (.v v h1)) (h3 : H' = H) (h4 : B' = B)
 | light (h1 : wantA ops.toList E s.o = some true) (h2 : s.cl = .light) (h5 : lightV c E s B none = some v) (h3 : H' = H) (h4 : B' = B)
 | alloc (h1 : wantA ops.toList E s.o = some true) (h2 : s.cl = .alloc) (h5 : opA c E H s.o.op = some (.v v H')) (h4 : B' = B)
 | work (h1 : wantA ops.toList E s.o = some true) (h2 : s.cl = .work) (h5 : opR c app E H s.o.op = some (v, H')) (h3 : H.nxt ≤ H'.nxt) (h4 : B' = (H', s.i) :: B)
theorem setR_eq {e e' : T AV} {d : Option Tmp} {v : AV} {sz : Nat} {h h' : Heap} {bs bs' : List (Heap × Nat)} (q : setR e d v sz h bs = .ok e' h' bs') :
  h' = h ∧ bs' = bs ∧ (d = none → e' = e) ∧ (∀ t, d = some t → t < sz ∧ e' = e.set und t v) := by
 unfold setR at q
 cases d with
 | none => cases q; exact ⟨rfl, rfl, fun _ => rfl, fun t ht => by cases ht⟩
 | some d =>
  simp only [] at q
  split at q
  ·rename_i hd
   cases q
   exact ⟨rfl, rfl, (fun k => by cases k), fun t ht => by cases ht; exact ⟨Nat.lt_of_succ_le (bleT hd), rfl⟩⟩
  ·cases q
theorem runP_res {c : Ctx} {app : App} {sz : Nat} {ops : Array Oper} {s : PStep} {e e' : T AV} {h h' : Heap} {bs bs' : List (Heap × Nat)} (q : runP c app sz ops.toList s e h bs = .ok e' h' bs') :
  ∃ v, StepRes c app ops s e h bs v h' bs' ∧ (s.o.dst = none → e' = e) ∧ (∀ t, s.o.dst = some t → t < sz ∧ e' = e.set und t v) := by
 unfold runP at q
 split at q
 ·cases q
 ·rename_i hw
  obtain ⟨rfl, rfl, q3, q4⟩ := setR_eq q
  exact ⟨und, .un hw rfl rfl rfl, q3, q4⟩
 ·rename_i hw
  cases hc : s.cl with
  | pure =>
   rw [hc] at q
   simp only [] at q
   split at q
   ·rename_i v h1 ho
    obtain ⟨rfl, rfl, q3, q4⟩ := setR_eq q
    exact ⟨v, .pure hw hc ⟨_, ho⟩ rfl rfl, q3, q4⟩
   ·cases q
  | light =>
   rw [hc] at q
   simp only [] at q
   split at q
   ·rename_i v ho
    obtain ⟨rfl, rfl, q3, q4⟩ := setR_eq q
    exact ⟨v, .light hw hc ho rfl rfl, q3, q4⟩
   ·cases q
  | alloc =>
   rw [hc] at q
   simp only [] at q
   split at q
   ·rename_i v h1 ho
    obtain ⟨rfl, rfl, q3, q4⟩ := setR_eq q
    exact ⟨v, .alloc hw hc ho rfl, q3, q4⟩
   ·cases q
  | work =>
   rw [hc] at q
   simp only [] at q
   split at q
   ·cases q
   ·rename_i v h1 ho
    split at q
    ·rename_i hn
     obtain ⟨rfl, rfl, q3, q4⟩ := setR_eq q
     exact ⟨v, .work hw hc (by unfold opR; rw [ho]) (bleT hn) rfl, q3, q4⟩
    ·cases q
   ·rename_i t args h1 ho
    split at q
    ·rename_i v h2 hap
     split at q
     ·rename_i hn
      obtain ⟨rfl, rfl, q3, q4⟩ := setR_eq q
      exact ⟨v, .work hw hc (by unfold opR; rw [ho]; simp only [hap]) (bleT hn) rfl, q3, q4⟩
     ·cases q
    ·cases q
theorem lightV_spec {c : Ctx} {e : T AV} {s : PStep} : ∀ {bs : List (Heap × Nat)} {p : Option AV} {v : AV}, lightV c e s bs p = some v → (∀ u, p = some u → u = v) ∧
  ∀ pre g j post, bs = pre ++ (g, j) :: post → (∀ x ∈ pre, bitB s.pm x.2 = false) → ∃ g', opA c e g s.o.op = some (.v v g')
 | [], p, v, q => by
  have q' : p = some v := q
  subst q'
  exact ⟨fun u k => by cases k; rfl, fun pre g j post k => by simp at k⟩
 | (g0, j0) :: bs, p, v, q => by
  have q' : (match opA c e g0 s.o.op with
   | some (.v v _) => (match agree p v with
    | true => (match bitB s.pm j0 with | true => some v | false => lightV c e s bs (some v))
    | false => none)
   | _ => none) = some v := q
  split at q'
  ·rename_i v0 h0 ho
   split at q'
   ·rename_i hag
    have hp : ∀ u, p = some u → u = v0 := fun u hu => by
     subst hu; exact agree_eq.1 hag
    split at q'
    ·rename_i hb
     cases q'
     refine ⟨hp, fun pre g j post k hk => ?_⟩
     cases pre with
     | nil => simp at k; obtain ⟨⟨rfl, rfl⟩, rfl⟩ := k; exact ⟨_, ho⟩
     | cons x pre =>
      simp at k
      have := hk x List.mem_cons_self
      rw [← k.1] at this
      rw [hb] at this; cases this
    ·rename_i hb
     obtain ⟨h1, h2⟩ := lightV_spec q'
     have hv : v0 = v := h1 v0 rfl
     subst hv
     refine ⟨hp, fun pre g j post k hk => ?_⟩
     cases pre with
     | nil => simp at k; obtain ⟨⟨rfl, rfl⟩, rfl⟩ := k; exact ⟨_, ho⟩
     | cons x pre =>
      simp at k
      exact h2 pre g j post k.2 (fun y hy => hk y (List.mem_cons_of_mem _ hy))
   ·cases q'
  ·cases q'
end Go.Px
end
section
namespace Go.Px
def isIn (l : Array Bool) (i : Nat) : Prop := l.getD i false = true
theorem in_set {l : Array Bool} {i j : Nat} (hi : i < l.size) : isIn (l.setIfInBounds i true) j ↔ j = i ∨ isIn l j := by
  unfold isIn
  simp only [Array.getD_eq_getD_getElem?, Array.getElem?_setIfInBounds]
  by_cases h : i = j
  · subst h; simp [hi]
  · rw [if_neg h]; simp [Ne.symm h]
section
variable {c : Ctx} {app : App} {sz : Nat} {ops : Array Oper} {ms : List Nat} {wr : T (Option Nat)} {L : List PStep}
variable (st : Static c ops ms wr L) (tr : Trace c app sz ops L) (ρ0 : Map) (w0 : World) (a0 : Act)
include st in
theorem Static.lt {m : Nat} {s : PStep} (h : L[m]? = some s) : s.i < ops.size := (Array.getElem?_eq_some_iff.1 (st.at_ m s h).1).1
include st in
theorem Static.fresh {m : Nat} {s : PStep} (h : L[m]? = some s) : bitB (doneM L m) s.i = false := by
  have := st.ok m s h
  unfold stepOk at this
  cases hb : bitB (doneM L m) s.i with
  | false => rfl
  | true => rw [hb] at this; cases this
include st in
theorem Static.uniq {m m' : Nat} {s s' : PStep} (h : L[m]? = some s) (h' : L[m']? = some s') (e : s.i = s'.i) : m = m' := by
  rcases Nat.lt_trichotomy m m' with k | k | k
  · have := st.fresh h'
    rw [← e, (doneM_spec L m' s.i).2 ⟨m, s, k, h, rfl⟩] at this; cases this
  · exact k
  · have := st.fresh h
    rw [e, (doneM_spec L m s'.i).2 ⟨m', s', k, h', rfl⟩] at this; cases this
include st in
theorem Static.parts {m : Nat} {s : PStep} (h : L[m]? = some s) : inB s.pm (doneM L m) = true ∧ (isWork s.cl = true → inB (doneM L m) s.pm = true) ∧
    (∀ d, s.o.dst = some d → wr.get none d = some s.i) ∧ looksOk ms wr s (doneM L m) (tmpsOf s.o.op.operands.toList) = true ∧ looksOk ms wr s (doneM L m) (guardSlot ops.toList s.o) = true := by
  have := st.ok m s h
  unfold stepOk at this
  split at this
  · cases this
  · split at this
    · cases this
    · rename_i h1
      split at this
      · cases this
      · rename_i h2
        split at this
        · cases this
        · rename_i h3
          split at this
          · cases this
          · rename_i h4
            refine ⟨h1, fun hw => by rw [hw] at h2; exact h2, fun d hd => ?_, h4, this⟩
            rw [hd] at h3
            simp only [] at h3
            split at h3
            · rename_i j hj; rw [hj, beqT h3]
            · cases h3
include st in
theorem Static.writer {m m' : Nat} {s s' : PStep} (h : L[m]? = some s) (h' : L[m']? = some s') {t : Tmp} (e : s.o.dst = some t) (e' : s'.o.dst = some t) : m = m' := by
  have h1 := (st.parts h).2.2.1 t e
  have h2 := (st.parts h').2.2.1 t e'
  rw [h1] at h2
  exact st.uniq h h' (Option.some.inj h2)
theorem looksOk_mem {s : PStep} {done : Nat} : ∀ {l : List Tmp}, looksOk ms wr s done l = true → ∀ t ∈ l, lookOk ms wr s done t = true
  | [], h, t, ht => by cases ht
  | x :: l, h, t, ht => by
    have h' : (match lookOk ms wr s done x with | true => looksOk ms wr s done l | false => false) = true := h
    split at h'
    · rename_i h0
      rcases List.mem_cons.1 ht with rfl | ht
      · exact h0
      · exact looksOk_mem h' t ht
    · cases h'
theorem Trace.res {m : Nat} {s : PStep} (h : L[m]? = some s) : ∃ v, StepRes c app ops s (tr.E m) (tr.H m) (tr.B m) v (tr.H (m + 1)) (tr.B (m + 1)) ∧ (s.o.dst = none → tr.E (m + 1) = tr.E m) ∧ (∀ t, s.o.dst = some t → t < sz ∧ tr.E (m + 1) = (tr.E m).set und t v) :=
  runP_res (tr.step m s h)
theorem Trace.keep {m m' : Nat} (hle : m ≤ m') (hl : m' ≤ L.length) (t : Tmp) (hn : ∀ k s, m ≤ k → k < m' → L[k]? = some s → s.o.dst ≠ some t) : (tr.E m').get und t = (tr.E m).get und t := by
  induction m' with
  | zero => have : m = 0 := by omega
            subst this; rfl
  | succ k ih =>
    by_cases hk : m = k + 1
    · subst hk; rfl
    · have hks : L[k]? = some L[k] := List.getElem?_eq_getElem (by omega)
      obtain ⟨v, _, h1, h2⟩ := tr.res hks
      have := ih (by omega) (by omega) (fun j s a b => hn j s a (by omega))
      rw [← this]
      cases hd : L[k].o.dst with
      | none => rw [h1 hd]
      | some d =>
        obtain ⟨_, h3⟩ := h2 d hd
        rw [h3, get_set_ne]
        intro e
        subst e
        exact hn k L[k] (by omega) (by omega) hks hd
theorem StepRes.nxt {s : PStep} {E : T AV} {H H' : Heap} {B B' : List (Heap × Nat)} {v : AV} (r : StepRes c app ops s E H B v H' B') (hc : s.cl = cls c s.o.op) : H.nxt ≤ H'.nxt := by
  cases r with
  | un h1 h2 h3 h4 => subst h3; exact Nat.le_refl _
  | pure h1 h2 h5 h3 h4 => subst h3; exact Nat.le_refl _
  | light h1 h2 h5 h3 h4 => subst h3; exact Nat.le_refl _
  | alloc h1 h2 h5 h4 =>
    obtain ⟨b, hb, _⟩ := alloc_spec (by rw [← hc]; exact h2) h5
    subst hb; exact Nat.le_succ _
  | work h1 h2 h5 h3 h4 => exact h3
include st in
theorem Trace.mono {m m' : Nat} (hle : m ≤ m') (hl : m' ≤ L.length) : (tr.H m).nxt ≤ (tr.H m').nxt := by
  induction m' with
  | zero => have : m = 0 := by omega
            subst this; exact Nat.le_refl _
  | succ k ih =>
    by_cases hk : m = k + 1
    · subst hk; exact Nat.le_refl _
    · have hks : L[k]? = some L[k] := List.getElem?_eq_getElem (by omega)
      obtain ⟨v, r, _⟩ := tr.res hks
      exact Nat.le_trans (ih (by omega) (by omega)) (r.nxt (st.at_ k _ hks).2.2)
theorem Trace.bases {m m' : Nat} (hle : m ≤ m') (hl : m' ≤ L.length) : ∃ pre, tr.B m' = pre ++ tr.B m ∧ ∀ x ∈ pre, ∃ k s, m ≤ k ∧ k < m' ∧ L[k]? = some s ∧ tr.B (k + 1) ≠ tr.B k ∧ s.i = x.2 := by
  induction m' with
  | zero => have : m = 0 := by omega
            subst this; exact ⟨[], rfl, fun x hx => by cases hx⟩
  | succ k ih =>
    by_cases hk : m = k + 1
    · subst hk; exact ⟨[], rfl, fun x hx => by cases hx⟩
    · have hks : L[k]? = some L[k] := List.getElem?_eq_getElem (by omega)
      obtain ⟨v, r, _⟩ := tr.res hks
      obtain ⟨pre, h1, h2⟩ := ih (by omega) (by omega)
      have same : tr.B (k + 1) = tr.B k → ∃ pre, tr.B (k + 1) = pre ++ tr.B m ∧ ∀ x ∈ pre, ∃ j s, m ≤ j ∧ j < k + 1 ∧ L[j]? = some s ∧ tr.B (j + 1) ≠ tr.B j ∧ s.i = x.2 := fun e =>
        ⟨pre, by rw [e]; exact h1, fun x hx => let ⟨j, s, a, b, d⟩ := h2 x hx; ⟨j, s, a, by omega, d⟩⟩
      cases r with
      | un h1 h2 h3 h4 => exact same h4
      | pure h1 h2 h5 h3 h4 => exact same h4
      | light h1 h2 h5 h3 h4 => exact same h4
      | alloc h1 h2 h5 h4 => exact same h4
      | work g1 g2 g5 g3 g4 =>
        refine ⟨(tr.H (k + 1), L[k].i) :: pre, by rw [g4, h1]; rfl, fun x hx => ?_⟩
        rcases List.mem_cons.1 hx with rfl | hx
        · exact ⟨k, L[k], by omega, by omega, hks, fun e => by rw [g4] at e; have := congrArg List.length e; simp at this, rfl⟩
        · obtain ⟨j, s, a, b, d⟩ := h2 x hx; exact ⟨j, s, a, by omega, d⟩
structure Inv (listed : Array Bool) (m : Nat) (σ : Map) (a : Act) (w : World) : Prop where
  size : listed.size = ops.size
  le : m ≤ L.length
  pre : ∀ (k : Nat) (s : PStep), k < m → L[k]? = some s → isIn listed s.i
  nowork : ∀ (k : Nat) (s : PStep), m ≤ k → L[k]? = some s → isIn listed s.i → tr.B (k + 1) = tr.B k
  closed : ∀ (i pm j : Nat), isIn listed i → nth ms i = some pm → bitB pm j = true → isIn listed j
  good : Good ρ0 (tr.H 0) w0 (cut σ (tr.H m).nxt) (tr.H m) w
  base : ∃ g j rest, tr.B m = (g, j) :: rest ∧ HLe g (tr.H m)
  dom : ∀ i p, σ i = some p → i < (tr.H m).nxt ∨ ∃ (k : Nat) (s : PStep), m ≤ k ∧ L[k]? = some s ∧ isIn listed s.i ∧ i = (tr.H k).nxt ∧ (tr.H (k + 1)).nxt = i + 1
  early : ∀ (k : Nat) (s : PStep), m ≤ k → L[k]? = some s → isIn listed s.i → tr.H (k + 1) = tr.H k ∨
    ∃ b B M, tr.H (k + 1) = (tr.H k).new b ∧ AlOk b ∧ σ (tr.H k).nxt = some (B, M) ∧ B < w.heap.size ∧ w0.heap.size ≤ B ∧ (∀ j M', j ≠ (tr.H k).nxt → σ j ≠ some (B, M')) ∧ ABR (cut σ (tr.H (k + 1)).nxt) b B M w ∧ σ.F B = []
  tsz : a.tmps.size = sz
  slot0 : ∀ t : Tmp, (∀ (k : Nat) (s : PStep), L[k]? = some s → isIn listed s.i → s.o.dst ≠ some t) → VR ρ0 ((tr.E 0).get und t) (a.tmps.getD t undef)
  slot1 : ∀ (k : Nat) (s : PStep) (t : Tmp), L[k]? = some s → isIn listed s.i → s.o.dst = some t → VR (cut σ (tr.H (k + 1)).nxt) ((tr.E (k + 1)).get und t) (a.tmps.getD t undef)
  defers : a.defers = a0.defers
variable {st tr ρ0 w0 a0} {listed : Array Bool} {m : Nat} {σ : Map} {a : Act} {w : World}
theorem Inv.absorb (st : Static c ops ms wr L) (inv : Inv (ms := ms) tr ρ0 w0 a0 listed m σ a w) {s : PStep} (hs : L[m]? = some s) (hl : isIn listed s.i) : Inv (ms := ms) tr ρ0 w0 a0 listed (m + 1) σ a w := by
  have hlt : m < L.length := (List.getElem?_eq_some_iff.1 hs).1
  obtain ⟨v, r, _⟩ := tr.res hs
  have hB := inv.nowork m s (Nat.le_refl _) hs hl
  have hn : (tr.H m).nxt ≤ (tr.H (m + 1)).nxt := tr.mono st (Nat.le_succ _) hlt
  have key : Good ρ0 (tr.H 0) w0 (cut σ (tr.H (m + 1)).nxt) (tr.H (m + 1)) w ∧ HLe (tr.H m) (tr.H (m + 1)) := by
    rcases inv.early m s (Nat.le_refl _) hs hl with e | ⟨b, B, M, e, h1, h2, h3, h4, h5, h6, h7⟩
    · rw [e]; exact ⟨inv.good, HLe.refl _⟩
    · have hnn : (tr.H (m + 1)).nxt = (tr.H m).nxt + 1 := by rw [e]; rfl
      have hcut : cut σ (tr.H (m + 1)).nxt = upd (cut σ (tr.H m).nxt) (tr.H m).nxt (B, M) := by
        refine Map.same (fun i => ?_) rfl rfl
        rw [hnn]
        by_cases hi : i = (tr.H m).nxt
        · subst hi; rw [upd_same, cut_lt (Nat.lt_succ_self _)]; exact h2
        · rw [upd_ne _ _ hi]
          by_cases hi2 : i < (tr.H m).nxt
          · rw [cut_lt (by omega), cut_lt hi2]
          · rw [cut_ge (by omega), cut_ge (by omega)]
      rw [hcut]
      rw [hcut] at h6
      refine ⟨?_, by rw [e]; exact HLe.new inv.good.wf b⟩
      rw [e]
      refine inv.good.adopt (cut_ge (Nat.le_refl _)) b h1.row h3 h4 (fun j M' q => ?_) h6 h7 h1.arr h1.gl
      have hj : j < (tr.H m).nxt := by
        by_cases hj : j < (tr.H m).nxt
        · exact hj
        · rw [cut_ge (by omega)] at q; cases q
      exact h5 j M' (by omega) (cut_sub _ _ _ _ q)
  obtain ⟨g, j, rest, b1, b2⟩ := inv.base
  refine { inv with le := hlt, pre := ?_, nowork := fun k x hk => inv.nowork k x (by omega), good := key.1, base := ⟨g, j, rest, by rw [hB]; exact b1, b2.trans key.2⟩, dom := ?_, early := fun k x hk => inv.early k x (by omega) }
  · intro k x hk hx
    by_cases h : k = m
    · subst h; rw [hs] at hx; cases hx; exact hl
    · exact inv.pre k x (by omega) hx
  · intro i p hi
    rcases inv.dom i p hi with q | ⟨k, x, q1, q2, q3, q4, q5⟩
    · exact .inl (by omega)
    · by_cases h : k = m
      · subst h; exact .inl (by omega)
      · exact .inr ⟨k, x, by omega, q2, q3, q4, q5⟩
theorem Inv.norm (st : Static c ops ms wr L) : ∀ (n m : Nat), L.length - m = n → Inv (ms := ms) tr ρ0 w0 a0 listed m σ a w → ∃ m', Inv (ms := ms) tr ρ0 w0 a0 listed m' σ a w ∧ ∀ s, L[m']? = some s → ¬ isIn listed s.i := by
  intro n
  induction n with
  | zero =>
    intro m hn inv
    refine ⟨m, inv, fun s hs => ?_⟩
    have := (List.getElem?_eq_some_iff.1 hs).1
    omega
  | succ n ih =>
    intro m hn inv
    have hs : L[m]? = some L[m] := List.getElem?_eq_getElem (by omega)
    by_cases h : isIn listed L[m].i
    · exact ih (m + 1) (by omega) (inv.absorb st hs h)
    · exact ⟨m, inv, fun s q => by rw [hs] at q; cases q; exact h⟩
theorem Inv.look (st : Static c ops ms wr L) (inv : Inv (ms := ms) tr ρ0 w0 a0 listed m σ a w) {k : Nat} {s : PStep} (hk : m ≤ k) (hs : L[k]? = some s) (hl : ¬ isIn listed s.i) (hpm : ∀ j, bitB s.pm j = true → isIn listed j)
    {t : Tmp} (ht : t ∈ tmpsOf s.o.op.operands.toList ∨ t ∈ guardSlot ops.toList s.o) : VR (cut σ (tr.H k).nxt) ((tr.E k).get und t) (a.tmps.getD t undef) := by
  obtain ⟨p1, p2, p3, p4, p5⟩ := st.parts hs
  have hlk : lookOk ms wr s (doneM L k) t = true := by
    rcases ht with ht | ht
    · exact looksOk_mem p4 t ht
    · exact looksOk_mem p5 t ht
  have hkl : k < L.length := (List.getElem?_eq_some_iff.1 hs).1
  have hρ0 : Sub ρ0 (cut σ (tr.H k).nxt) := inv.good.sub.trans (cut_mono _ (tr.mono st hk (by omega)))
  have unwritten : (∀ (j : Nat) (x : PStep), L[j]? = some x → isIn listed x.i → x.o.dst ≠ some t) → (∀ (j : Nat) (x : PStep), j < k → L[j]? = some x → x.o.dst ≠ some t) → VR (cut σ (tr.H k).nxt) ((tr.E k).get und t) (a.tmps.getD t undef) := fun h1 h2 => by
    rw [tr.keep (Nat.zero_le k) (by omega) t (fun j x _ hj hx => h2 j x hj hx)]
    exact (inv.slot0 t h1).mono hρ0
  by_cases hw : ∃ (j : Nat) (x : PStep), L[j]? = some x ∧ x.o.dst = some t
  · obtain ⟨j, x, hx, hd⟩ := hw
    have hwr := (st.parts hx).2.2.1 t hd
    unfold lookOk at hlk
    rw [hwr] at hlk
    simp only [] at hlk
    split at hlk
    · rename_i he
      have hij := beqT he
      have hjk := st.uniq hx hs hij
      subst hjk
      rw [hs] at hx; cases hx
      refine unwritten (fun j2 y hy hly hdy => ?_) (fun j2 y hj2 hy hdy => ?_)
      · have := st.writer hy hs hdy hd
        subst this; rw [hs] at hy; cases hy; exact hl hly
      · have := st.writer hy hs hdy hd
        omega
    · split at hlk
      · rename_i hb
        obtain ⟨j2, y, h1, h2, h3⟩ := (doneM_spec L k x.i).1 hb
        have hjj := st.uniq h2 hx h3
        subst hjj
        rw [hx] at h2; cases h2
        have h5 := inv.slot1 j2 x t hx (hpm _ hlk) hd
        rw [tr.keep (m := j2 + 1) (by omega) (by omega) t (fun j3 y h6 h7 h8 h9 => by have := st.writer h8 hx h9 hd; omega)]
        exact h5.mono (cut_mono _ (tr.mono st (by omega) (by omega)))
      · rename_i hb
        have hnl : ¬ isIn listed x.i := fun hlx => by
          have hpx := (st.at_ j x hx).2.1
          rw [hpx] at hlk
          exact hl (inv.closed x.i x.pm s.i hlx hpx hlk)
        refine unwritten (fun j2 y hy hly hdy => ?_) (fun j2 y hj2 hy hdy => ?_)
        · have := st.writer hy hx hdy hd
          subst this; rw [hx] at hy; cases hy; exact hnl hly
        · have := st.writer hy hx hdy hd
          subst this; rw [hx] at hy; cases hy
          rw [(doneM_spec L k x.i).2 ⟨j2, x, hj2, hx, rfl⟩] at hb; cases hb
  · exact unwritten (fun j x hx _ hd => hw ⟨j, x, hx, hd⟩) (fun j x _ hx hd => hw ⟨j, x, hx, hd⟩)
end
theorem env_exists {τ : Map} {E : T AV} {tm : Array Value} {sz : Nat} (hsz : tm.size = sz) : ∀ (l : List Tmp), (∀ t ∈ l, VR τ (E.get und t) (tm.getD t undef)) → ∃ e' : T AV, (∀ t ∈ l, e'.get und t = E.get und t) ∧ ER τ e' tm sz
  | [], _ => by
    refine ⟨T.put und (List.replicate sz .bad) .leaf 0, (fun t ht => by cases ht), hsz, fun t => ?_⟩
    rw [get_put]
    simp only [Nat.zero_le, if_true, Nat.sub_zero, get_leaf, List.getElem?_replicate]
    by_cases h : t < sz
    · rw [if_pos h]; simp [VR]
    · rw [if_neg h]
      have : tm.getD t undef = undef := by simp [Array.getD_eq_getD_getElem?, Array.getElem?_eq_none (show tm.size ≤ t by omega)]
      rw [this]; exact und_ok τ
  | t0 :: l, h => by
    obtain ⟨e, h1, h2⟩ := env_exists hsz l (fun t ht => h t (List.mem_cons_of_mem _ ht))
    refine ⟨e.set und t0 (E.get und t0), fun t ht => ?_, h2.1, fun t => ?_⟩
    · rw [get_set]
      by_cases k : t = t0
      · rw [if_pos k, k]
      · rw [if_neg k]
        rcases List.mem_cons.1 ht with q | q
        · exact absurd q k
        · exact h1 t q
    · rw [get_set]
      by_cases k : t = t0
      · rw [if_pos k, k]; exact h t0 List.mem_cons_self
      · rw [if_neg k]; exact h2.2 t
theorem mem_tmpsOf {t : Tmp} : ∀ {l : List Operand}, Operand.tmp t ∈ l → t ∈ tmpsOf l
  | .tmp u :: l, h => by
    show t ∈ u :: tmpsOf l
    rcases List.mem_cons.1 h with k | h
    · cases k; exact List.mem_cons_self
    · exact List.mem_cons_of_mem _ (mem_tmpsOf h)
  | .const v :: l, h => by
    rcases List.mem_cons.1 h with k | h
    · cases k
    · exact mem_tmpsOf (l := l) h
  | .global v :: l, h => by
    rcases List.mem_cons.1 h with k | h
    · cases k
    · exact mem_tmpsOf (l := l) h
  | .func v :: l, h => by
    rcases List.mem_cons.1 h with k | h
    · cases k
    · exact mem_tmpsOf (l := l) h
theorem ev_agree {e e' : T AV} {l : List Operand} (h : ∀ t ∈ tmpsOf l, e'.get und t = e.get und t) : ∀ x ∈ l, ev e x = ev e' x := fun x hx => by
  cases x with
  | tmp t => exact (h t (mem_tmpsOf hx)).symm
  | const v => rfl
  | global g => rfl
  | func f => rfl
theorem want_agree {e e' : T AV} {ops : List Oper} {o : Oper} (h : ∀ t ∈ guardSlot ops o, e'.get und t = e.get und t) : wantA ops e o = wantA ops e' o := by
  unfold wantA
  unfold guardSlot at h
  cases hg : o.guard with
  | none => rfl
  | some jw =>
    obtain ⟨j, b⟩ := jw
    rw [hg] at h
    simp only [] at h ⊢
    cases hj : nth ops j with
    | none => rfl
    | some p =>
      rw [hj] at h
      simp only [] at h ⊢
      cases hd : p.dst with
      | none => rfl
      | some d =>
        rw [hd] at h
        simp only [] at h ⊢
        rw [h d List.mem_cons_self]
theorem opR_congr {c : Ctx} {app : App} {e e' : T AV} {h : Heap} {o : Op} (H : ∀ x ∈ o.operands.toList, ev e x = ev e' x) : opR c app e h o = opR c app e' h o := by
  unfold opR; rw [opA_congr o H]
end Go.Px
end
section
namespace Go.Px
section
variable {c : Ctx} (k : CtxOk c)
include k
theorem convertL_ok {ρ : Map} {h h' : Heap} {w : World} (hr : HR ρ h w) {s t : TypeId} {x v : AV} {X : Value} (hns : ∀ d, c.under t = some d → ∀ e, d ≠ .slice e) (e : oConvert c h s t x = some (v, h')) (hx : VR ρ x X) :
  ∃ z, (convert s t X).run c.P w = .ok z w ∧ VR ρ v z := by
 unfold oConvert at e
 split at e
 ·cases e
 ·rename_i ds hds
  have us := under_eq k hds
  split at e
  ·cases e
  ·rename_i dt hdt
   have ut := under_eq k hdt
   split at e
   ·rename_i ik
    split at e
    ·rename_i jk n
     cases e
     simp only [VR] at hx; subst hx
     exact ⟨.int ik (ik.wrap n), by simp [convert, run_underlying us, run_underlying ut, Conv.intToInt], by simp only [VR, wr_eq]⟩
    ·cases e
   ·split at e
    ·rename_i u hu
     cases e
     exact convToU_ok k hr us ut hu hx
    ·cases e
   ·split at e
    ·rename_i u hu
     cases e
     exact convToP_ok k hr us ut hu hx
    ·cases e
   ·split at e
    ·split at e
     ·rename_i l
      cases e
      simp only [VR] at hx; subst hx
      exact ⟨.string (bs l), by simp [convert, run_underlying us, run_underlying ut], by simp only [VR]⟩
     ·cases e
    ·rename_i el
     split at e
     ·rename_i de hde
      have ue := under_eq k hde
      split at e
      ·split at e
       ·split at e
        ·-- nil
         cases e
         simp only [VR] at hx; subst hx
         refine ⟨.string ByteArray.empty, ?_, by simp only [VR]; rfl⟩
         rw [run_convert_bytes_string w s t el _ _ _ us ue ut]
         simp [Conv.bytesToString]
        ·cases e
         simp only [VR] at hx
         obtain ⟨B, N, o, C, hp, rfl⟩ := hx
         refine ⟨.string ByteArray.empty, ?_, by simp only [VR]; rfl⟩
         rw [run_convert_bytes_string w s t el _ _ _ us ue ut]
         rw [run_bytesToString w _ 0 C [] (by simp [loadCells, loadCellsFrom])]
         rfl
        ·rename_i n z lr
         split at e
         ·rename_i hz
          have hz := beqT hz
          subst hz
          split at e
          ·rename_i l hl
           cases e
           simp only [VR] at hx
           obtain ⟨hlen, ⟨rfl, hx⟩ | ⟨B, o, C, L, rfl, hC, l1, l3⟩⟩ := hx
           ·have : lr = [] := List.length_eq_zero_iff.1 (by omega)
            subst this
            have hl2 : some [] = some l := hl
            cases hl2
            rcases hx with rfl | ⟨a, C, rfl⟩
            ·refine ⟨.string ByteArray.empty, ?_, by simp only [VR]; rfl⟩
             rw [run_convert_bytes_string w s t el _ _ _ us ue ut]
             simp [Conv.bytesToString]
            ·refine ⟨.string ByteArray.empty, ?_, by simp only [VR]; rfl⟩
             rw [run_convert_bytes_string w s t el _ _ _ us ue ut]
             rw [run_bytesToString w _ 0 C [] (by simp [loadCells, loadCellsFrom])]
             rfl
           ·obtain ⟨ns, n1, n2⟩ := bytesA_ok _ L l hl (l1.mono (Sub.low ρ))
            have hld := run_loadCells_list (P := c.P) w ⟨B, o, none⟩ L (fun j v hv => by rw [add_off]; exact hr.fz B _ v (l3 j v hv))
            have hn : L.length = n := by rw [← l1.length]; omega
            rw [hn, n1] at hld
            refine ⟨.string (bs l), ?_, by simp only [VR]⟩
            rw [run_convert_bytes_string w s t el _ _ _ us ue ut, run_bytesToString w _ n C ns hld, foldl_push_ints, n2]
            have he0 : ByteArray.empty.data = #[] := rfl
            rw [he0]
            simp [bs]
          ·cases e
         ·cases e
        ·rename_i id off len cap z
         split at e
         ·rename_i hz
          split at e
          ·rename_i r hrow
           split at e
           ·rename_i hb
            have hb := bleT hb
            split at e
            ·rename_i l hl
             cases e
             simp only [VR] at hx
             obtain ⟨B, N, C, hp, rfl, _⟩ := hx
             have ro := hr.rowAt hrow hp
             obtain ⟨L, l1, l2, l3⟩ := RowOk.reads ro len off hb
             obtain ⟨ns, n1, n2⟩ := bytesA_ok _ L l hl l1
             have hld := run_loadCells_list (P := c.P) w ⟨B, off, none⟩ L (fun j v hv => by rw [add_off]; exact l3 j v hv)
             rw [l2, n1] at hld
             refine ⟨.string (bs l), ?_, by simp only [VR]⟩
             rw [run_convert_bytes_string w s t el _ _ _ us ue ut, run_bytesToString w _ len C ns hld, foldl_push_ints, n2]
             have he0 : ByteArray.empty.data = #[] := rfl
             rw [he0]
             simp [bs]
            ·cases e
           ·cases e
          ·cases e
         ·cases e
        ·cases e
       ·cases e
      ·cases e
     ·cases e
    ·cases e
   ·rename_i el
    exact absurd rfl (hns _ hdt el)
   ·cases e
theorem light_ok {ρ : Map} {h h' : Heap} {w : World} (hr : HR ρ h w) {o : Oper} {a : Act} {sz : Nat} {e : T AV} (er : ER ρ e a.tmps sz) {v : AV} (hc : cls c o.op = .light) (he : opA c e h o.op = some (.v v h')) :
  ∃ nx, (execOp a.eval o).run c.P w = .ok nx w ∧ NR ρ v nx := by
 have ev := fun x => ev_ok er x
 have pure1 : ∀ {s : Sem Value}, execOp a.eval o = (do pure (.value (← s))) → (∃ z, s.run c.P w = .ok z w ∧ VR ρ v z) → ∃ nx, (execOp a.eval o).run c.P w = .ok nx w ∧ NR ρ v nx := fun q1 q2 => by
  obtain ⟨z, z1, z2⟩ := q2
  exact ⟨.value z, by rw [q1]; simp [z1], .inl ⟨z, rfl, z2⟩⟩
 cases ho : o.op <;> rw [ho] at he hc <;> simp only [cls] at hc <;> try (cases hc; done)
 case load t x =>
  simp only [opA] at he
  obtain ⟨q1, q2⟩ := val_eq he
  exact pure1 (by simp only [execOp, ho]) (load_ok k hr q1 (ev x))
 case slice t x lo hi mx =>
  simp only [opA] at he
  obtain ⟨q1, q2⟩ := val_eq he
  exact pure1 (by simp only [execOp, ho]) (sliceH_ok k hr q1 (ev x) (evo_ok er lo) (evo_ok er hi) (evo_ok er mx))
 case lookup t x y ok =>
  simp only [opA] at he
  obtain ⟨q1, q2⟩ := val_eq he
  exact pure1 (by simp only [execOp, ho]) (lookup_ok k hr q1 (ev x) (ev y))
 case entry x =>
  simp only [opA] at he
  obtain ⟨q1, q2⟩ := val_eq he
  exact pure1 (by simp only [execOp, ho]) (entry_ok hr q1 (ev x))
 case convert s t x =>
  simp only [opA] at he
  refine pure1 (by simp only [execOp, ho]) (convertL_ok k hr (fun d hd el hde => ?_) (valH_eq he) (ev x))
  rw [hd, hde] at hc; cases hc
 case call cl =>
  cases hk : cl.callee with
  | value f => rw [hk] at hc; cases hc
  | invoke f m => rw [hk] at hc; cases hc
  | builtin b =>
   rw [hk] at hc
   cases b <;> simp only [] at hc <;> try (cases hc; done)
   simp only [opA, oCall, hk, oBuiltin] at he
   split at he
   ·rename_i x r hl
    split at he
    ·rename_i t ht
     rw [nth_eq] at ht
     split at he
     ·rename_i u hu
      cases he
      have hL := evs_ok er cl.args.toList
      rw [hl] at hL
      cases hA : cl.args.toList.map a.eval with
      | nil => rw [hA] at hL; simp [VRs] at hL
      | cons X R =>
       rw [hA] at hL
       simp only [VRs] at hL
       obtain ⟨_, _, hx, _, hXR⟩ := hL
       cases hXR
       obtain ⟨z, z1, z2⟩ := len_ok k hr hu hx cl.argTypes (by simpa using ht) o.type R
       obtain ⟨CS, hCS⟩ : ∃ CS, (execOp a.eval o).run c.P w = (builtin .len cl.argTypes o.type CS (cl.args.map a.eval)).run c.P w :=
        ⟨_, by simp only [execOp, ho, resolve, hk, Sem.run_bind, Sem.run_pure, Result.andThen_ok, invoke]; rfl⟩
       have hargs : cl.args.map a.eval = (X :: R).toArray := by rw [← hA]; apply Array.ext'; simp
       refine ⟨.value z, ?_, .inl ⟨z, rfl, z2⟩⟩
       rw [hCS, hargs]
       unfold builtin
       simp [z1]
     ·cases he
    ·cases he
   ·cases he
end
end Go.Px
end
