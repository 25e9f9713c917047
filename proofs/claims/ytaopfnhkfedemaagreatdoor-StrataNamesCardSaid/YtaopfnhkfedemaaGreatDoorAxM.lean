/-
  AxM: conversions; maps.
-/
import Derived.Test.YtaopfnhkfedemaaGreatDoorAxL
import Derived.Laws.IdiomStrings
import Derived.MapKept
set_option linter.unusedVariables false
set_option linter.unusedSimpArgs false
namespace Go.Ax

theorem bytesA_ok : ∀ {ρ : Map} (l : List AV) (L : List Value) (r : List Nat), bytesA l = some r → VRs ρ l L → ∃ ns : List Int, L = ns.map (Value.int .u8) ∧ ns.map Int.toNat = r
  | ρ, [], L, r, e, h => by
    cases e; simp only [VRs] at h; subst h; exact ⟨[], rfl, rfl⟩
  | ρ, a :: l, L, r, e, h => by
    simp only [VRs] at h
    obtain ⟨x, t, hx, ht, rfl⟩ := h
    have e' : byte1 a (bytesA l) = some r := e
    unfold byte1 at e'
    split at e'
    · rename_i n
      split at e'
      · split at e'
        · rename_i r' hr'
          cases e'
          obtain ⟨ns, h1, h2⟩ := bytesA_ok l t r' hr' ht
          simp only [VR] at hx; subst hx
          exact ⟨n :: ns, by simp [h1], by simp [h2]⟩
        · cases e'
      · cases e'
    · cases e'
theorem foldl_push_ints : ∀ (ns : List Int) (r : ByteArray), ns.foldl (fun r n => r.push (UInt8.ofNat n.toNat)) r = ⟨r.data ++ ((ns.map Int.toNat).map UInt8.ofNat).toArray⟩
  | [], r => by simp
  | n :: ns, r => by
    simp only [List.map_cons, List.foldl_cons]
    rw [foldl_push_ints ns]
    simp [ByteArray.push]

section
variable {c : Ctx} (k : CtxOk c)
include k

/-! ### pointers that are unsafe -/
omit k in
theorem rowAt_mono {p : Program} {fits : TypeId → Bool} {e : TypeId} {m n off q : Nat} (h : m ≤ n) : ∀ (d : Nat), rowAt p fits d e m off q = true → rowAt p fits d e n off q = true
  | 0, z => by simp [rowAt] at z
  | d + 1, z => by
    unfold rowAt at z ⊢
    simp only [] at z ⊢
    split at z
    · cases z
    · rename_i hs
      rw [if_neg hs]
      simp only [Bool.or_eq_true, Bool.and_eq_true, decide_eq_true_eq] at z ⊢
      rcases z with z | z
      · exact .inl ⟨⟨z.1.1, by omega⟩, z.2⟩
      · exact .inr ⟨by omega, z.2⟩
omit k in
theorem liesAt_mono {p : Program} {e : TypeId} {m n off : Nat} (h : m ≤ n) : ∀ (d : Nat) (u : TypeId) (q : Nat), liesAt p d e m off u q = true → liesAt p d e n off u q = true
  | 0, u, q, z => by simp [liesAt] at z
  | d + 1, u, q, z => by
    unfold liesAt at z ⊢
    rw [Bool.or_eq_true] at z ⊢
    rcases z with z | z
    · exact .inl (rowAt_mono h _ z)
    · refine .inr ?_
      split at z
      · rename_i a b hu
        exact liesAt_mono h d _ _ z
      · cases z

theorem convToU_ok {ρ : Map} {h : Heap} {w : World} (hr : HR ρ h w) {s t : TypeId} {ds : TypeDesc} {x v : AV} {X : Value} (us : c.P.underlying s = some ds) (ut : c.P.underlying t = some .unsafePointer) (e : convToU c h ds x = some v) (hx : VR ρ x X) :
    ∃ z, (convert s t X).run c.P w = .ok z w ∧ VR ρ v z := by
  unfold convToU at e
  split at e
  · rename_i el
    split at e
    · cases e
      simp only [VR] at hx; subst hx
      exact ⟨.pointer none, by simp [convert, run_underlying us, run_underlying ut, Conv.unsafePointer], by simp only [VR]⟩
    · rename_i id off
      split at e
      · rename_i r hrow
        split at e
        · rename_i hb
          split at e
          · rename_i z hz
            split at e
            · cases e
            · rename_i hz0
              cases e
              simp only [VR] at hx
              obtain ⟨B, N, hp, rfl⟩ := hx
              have ro := hr.rowAt hrow hp
              have hsh := ro.1
              have hlt := bleT hb
              have hN := ro.2.1
              have hz0 := beqN hz0
              have h1 : ¬ N ≤ off := by omega
              exact ⟨.pointer (some ⟨B, off, none⟩), by simp [convert, run_underlying us, run_underlying ut, Conv.unsafePointer, Conv.seenAt, viewAt, cellsIn, hsh, run_size k hz, hz0, h1], by simp only [VR]; exact ⟨B, N, hp, rfl⟩⟩
          · cases e
        · cases e
      · cases e
    · cases e
  · cases e

theorem convToP_ok {ρ : Map} {h : Heap} {w : World} (hr : HR ρ h w) {s t u : TypeId} {ds : TypeDesc} {x v : AV} {X : Value} (us : c.P.underlying s = some ds) (ut : c.P.underlying t = some (.pointer u)) (e : convToP c h ds u x = some v) (hx : VR ρ x X) :
    ∃ z, (convert s t X).run c.P w = .ok z w ∧ VR ρ v z := by
  unfold convToP at e
  split at e
  · split at e
    · cases e
      simp only [VR] at hx; subst hx
      exact ⟨.pointer none, by simp [convert, run_underlying us, run_underlying ut, Conv.unsafePointer], by simp only [VR]⟩
    · rename_i id off
      split at e
      · rename_i r hrow
        split at e
        · rename_i z hz
          split at e
          · cases e
          · rename_i hz0
            split at e
            · rename_i hl
              cases e
              simp only [VR] at hx
              obtain ⟨B, N, hp, rfl⟩ := hx
              have ro := hr.rowAt hrow hp
              have hsh := ro.1
              have hN := ro.2.1
              have hz0 := beqN hz0
              have hl2 : liesAt c.P c.P.depth r.t (N / c.P.cellsOf r.t) off u 1 = true := liesAt_mono (Nat.div_le_div_right hN) _ _ _ hl
              exact ⟨.pointer (some ⟨B, off, none⟩), by simp [convert, run_underlying us, run_underlying ut, Conv.unsafePointer, Conv.seenAt, viewAt, hsh, run_size k hz, hz0, variablesAt, hl2], by simp only [VR]; exact ⟨B, N, hp, rfl⟩⟩
            · cases e
        · cases e
      · cases e
    · cases e
  · cases e

theorem convert_ok {ρ : Map} {h h' : Heap} {w : World} (hr : HR ρ h w) (wf : WF h) (fr : Free ρ h.nxt h'.nxt) {s t : TypeId} {x v : AV} {X : Value} (e : oConvert c h s t x = some (v, h')) (hx : VR ρ x X) :
    ∃ z w' ρ', (convert s t X).run c.P w = .ok z w' ∧ Good ρ h w ρ' h' w' ∧ VR ρ' v z := by
  unfold oConvert at e
  split at e
  · cases e
  · rename_i ds hds
    have us := under_eq k hds
    split at e
    · cases e
    · rename_i dt hdt
      have ut := under_eq k hdt
      split at e
      · rename_i ik
        split at e
        · rename_i jk n
          cases e
          simp only [VR] at hx; subst hx
          exact ⟨.int ik (ik.wrap n), w, ρ, by simp [convert, run_underlying us, run_underlying ut, Conv.intToInt], Good.refl hr wf, by simp only [VR, wr_eq]⟩
        · cases e
      · split at e
        · rename_i u hu
          cases e
          obtain ⟨z, z1, z2⟩ := convToU_ok k hr us ut hu hx
          exact ⟨z, w, ρ, z1, Good.refl hr wf, z2⟩
        · cases e
      · split at e
        · rename_i u hu
          cases e
          obtain ⟨z, z1, z2⟩ := convToP_ok k hr us ut hu hx
          exact ⟨z, w, ρ, z1, Good.refl hr wf, z2⟩
        · cases e
      · split at e
        · split at e
          · rename_i l
            cases e
            simp only [VR] at hx; subst hx
            exact ⟨.string (bs l), w, ρ, by simp [convert, run_underlying us, run_underlying ut], Good.refl hr wf, by simp only [VR]⟩
          · cases e
        · rename_i el
          split at e
          · rename_i de hde
            have ue := under_eq k hde
            split at e
            · split at e
              · split at e
                · -- nil
                  cases e
                  simp only [VR] at hx; subst hx
                  refine ⟨.string ByteArray.empty, w, ρ, ?_, Good.refl hr wf, by simp only [VR]; rfl⟩
                  rw [run_convert_bytes_string w s t el _ _ _ us ue ut]
                  simp [Conv.bytesToString]
                · cases e
                  simp only [VR] at hx
                  obtain ⟨B, N, o, C, hp, rfl⟩ := hx
                  refine ⟨.string ByteArray.empty, w, ρ, ?_, Good.refl hr wf, by simp only [VR]; rfl⟩
                  rw [run_convert_bytes_string w s t el _ _ _ us ue ut]
                  rw [run_bytesToString w _ 0 C [] (by simp [loadCells, loadCellsFrom])]
                  rfl
                · rename_i id off len cap z
                  split at e
                  · rename_i hz
                    split at e
                    · rename_i r hrow
                      split at e
                      · rename_i hb
                        have hb := bleT hb
                        split at e
                        · rename_i l hl
                          cases e
                          simp only [VR] at hx
                          obtain ⟨B, N, C, hp, rfl, _⟩ := hx
                          have ro := hr.rowAt hrow hp
                          obtain ⟨L, l1, l2, l3⟩ := RowOk.reads ro len off hb
                          obtain ⟨ns, n1, n2⟩ := bytesA_ok _ L l hl l1
                          have hld := run_loadCells_list (P := c.P) w ⟨B, off, none⟩ L (fun j v hv => by rw [add_off]; exact l3 j v hv)
                          rw [l2, n1] at hld
                          refine ⟨.string (bs l), w, ρ, ?_, Good.refl hr wf, by simp only [VR]⟩
                          rw [run_convert_bytes_string w s t el _ _ _ us ue ut, run_bytesToString w _ len C ns hld, foldl_push_ints, n2]
                          have he0 : ByteArray.empty.data = #[] := rfl
                          rw [he0]
                          simp [bs]
                        · cases e
                      · cases e
                    · cases e
                  · cases e
                · cases e
              · cases e
            · cases e
          · cases e
        · cases e
      · rename_i el
        split at e
        · split at e
          · rename_i de hde
            have ue := under_eq k hde
            split at e
            · split at e
              · split at e
                · rename_i l
                  cases e
                  simp only [VR] at hx; subst hx
                  have fr0 : ρ h.nxt = none := fr _ (Nat.le_refl _) (Nat.lt_succ_self _)
                  have hrun := run_bytes_of_string (P := c.P) w s t el (bs l) us ut ue
                  have hge := grownCap_ge w (bs l).size 0 el
                  rw [bs_size] at hrun hge
                  generalize hG : grownCap w l.length 0 el = G at hrun hge
                  have hsz : (bytesRow (bs l) G).size = G := by
                    unfold bytesRow
                    have h2 := bs_size l
                    have h3 : (bs l).data.size = l.length := h2
                    simp [h2, h3]; omega
                  rw [hsz] at hrun
                  have g0 : Good ρ h w ρ h w.drew := Good.draw (Good.refl hr wf) rfl ⟨rfl, rfl, rfl, Nat.le_refl _⟩
                  have hr1 : HR ρ h w.drew := hr.same rfl
                  have g1 : Good ρ h w.drew (upd ρ h.nxt (w.drew.heap.size, G)) (newRow h el l.length .leaf (l.map fun b => .int .u8 (.ofNat (b % 256)))) (w.drew.alloc (.cells (bytesRow (bs l) G) el (G, G + 1))) := by
                    refine Good.newBlock hr1 wf fr0 (.row ⟨el, l.length, .leaf, _, none⟩) _ G (fun r e => by cases e; rfl) ?_
                    refine ⟨?_, hge, fun j hj => ?_, fun j hj => ?_⟩
                    · unfold World.shape?; rw [alloc_at]; simp [hsz]
                    · rw [World.frozen?_alloc_mark]; simp; omega
                    · have hj2 : j < l.length := hj
                      have hj3 : j < (bs l).data.size := by have h2 : (bs l).data.size = l.length := bs_size l; omega
                      refine ⟨_, by rw [World.cell?_alloc_mark]; exact bytesRow_at (bs l) G j hj3, ?_⟩
                      rw [Row.get_new, List.length_map, Nat.mod_eq_of_lt hj2, List.getElem?_map, List.getElem?_eq_getElem hj2]
                      simp [VR, bs]
                  exact ⟨_, _, _, hrun, g0.trans g1, by
                    simp only [VR]
                    exact ⟨_, _, G, upd_same _ _ _, rfl, hge, (fun _ q => by cases q), (fun _ => by omega)⟩⟩
                · cases e
              · cases e
            · cases e
          · cases e
        · cases e
      · cases e
end
end Go.Ax
