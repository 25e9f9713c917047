/-
  AxM: conversions; maps.
-/
import Derived.Test.YtgmkkplekcekcaaGreatAxL
import Derived.Laws.IdiomStrings
import Derived.MapKept
set_option linter.unusedVariables false
set_option linter.unusedSimpArgs false
namespace Go.Ax

theorem bytesA_ok : ∀ {ρ : Map} (l : List AV) (L : List Value) (r : List Nat), bytesA l = some r → VRs ρ l L → ∃ ns : List Int, L = ns.map (Value.int .u8) ∧ ns.map Int.toNat = r
  | ρ, [], L, r, e, h => by
    cases e; simp only [VRs] at h; subst h; exact ⟨[], rfl, rfl⟩
  | ρ, a :: l, L, r, e, h => by
    simp only [VRs] at h
    obtain ⟨x, t, hx, ht, rfl⟩ := h
    have e' : byte1 a (bytesA l) = some r := e
    unfold byte1 at e'
    split at e'
    · rename_i n
      split at e'
      · split at e'
        · rename_i r' hr'
          cases e'
          obtain ⟨ns, h1, h2⟩ := bytesA_ok l t r' hr' ht
          simp only [VR] at hx; subst hx
          exact ⟨n :: ns, by simp [h1], by simp [h2]⟩
        · cases e'
      · cases e'
    · cases e'
theorem foldl_push_ints : ∀ (ns : List Int) (r : ByteArray), ns.foldl (fun r n => r.push (UInt8.ofNat n.toNat)) r = ⟨r.data ++ ((ns.map Int.toNat).map UInt8.ofNat).toArray⟩
  | [], r => by simp
  | n :: ns, r => by
    simp only [List.map_cons, List.foldl_cons]
    rw [foldl_push_ints ns]
    simp [ByteArray.push]

section
variable {c : Ctx} (k : CtxOk c)
include k

theorem convert_ok {ρ : Map} {h h' : Heap} {w : World} (hr : HR ρ h w) (wf : WF h) (fr : Free ρ h.nxt h'.nxt) {s t : TypeId} {x v : AV} {X : Value} (e : oConvert c h s t x = some (v, h')) (hx : VR ρ x X) :
    ∃ z w' ρ', (convert s t X).run c.P w = .ok z w' ∧ Good ρ h w ρ' h' w' ∧ VR ρ' v z := by
  unfold oConvert at e
  split at e
  · cases e
  · rename_i ds hds
    have us := under_eq k hds
    split at e
    · cases e
    · rename_i dt hdt
      have ut := under_eq k hdt
      split at e
      · rename_i ik
        split at e
        · rename_i jk n
          cases e
          simp only [VR] at hx; subst hx
          exact ⟨.int ik (ik.wrap n), w, ρ, by simp [convert, run_underlying us, run_underlying ut, Conv.intToInt], Good.refl hr wf, by simp only [VR, wr_eq]⟩
        · cases e
      · split at e
        · split at e
          · rename_i l
            cases e
            simp only [VR] at hx; subst hx
            exact ⟨.string (bs l), w, ρ, by simp [convert, run_underlying us, run_underlying ut], Good.refl hr wf, by simp only [VR]⟩
          · cases e
        · rename_i el
          split at e
          · rename_i de hde
            have ue := under_eq k hde
            split at e
            · split at e
              · split at e
                · -- nil
                  cases e
                  simp only [VR] at hx; subst hx
                  refine ⟨.string ByteArray.empty, w, ρ, ?_, Good.refl hr wf, by simp only [VR]; rfl⟩
                  rw [run_convert_bytes_string w s t el _ _ _ us ue ut]
                  simp [Conv.bytesToString]
                · cases e
                  simp only [VR] at hx
                  obtain ⟨B, N, o, C, hp, rfl⟩ := hx
                  refine ⟨.string ByteArray.empty, w, ρ, ?_, Good.refl hr wf, by simp only [VR]; rfl⟩
                  rw [run_convert_bytes_string w s t el _ _ _ us ue ut]
                  rw [run_bytesToString w _ 0 C [] (by simp [loadCells, loadCellsFrom])]
                  rfl
                · rename_i id off len cap z
                  split at e
                  · rename_i hz
                    split at e
                    · rename_i r hrow
                      split at e
                      · rename_i hb
                        have hb := bleT hb
                        split at e
                        · rename_i l hl
                          cases e
                          simp only [VR] at hx
                          obtain ⟨B, N, C, hp, rfl, _⟩ := hx
                          have ro := hr.rowAt hrow hp
                          obtain ⟨L, l1, l2, l3⟩ := RowOk.reads ro len off hb
                          obtain ⟨ns, n1, n2⟩ := bytesA_ok _ L l hl l1
                          have hld := run_loadCells_list (P := c.P) w ⟨B, off, none⟩ L (fun j v hv => by rw [add_off]; exact l3 j v hv)
                          rw [l2, n1] at hld
                          refine ⟨.string (bs l), w, ρ, ?_, Good.refl hr wf, by simp only [VR]⟩
                          rw [run_convert_bytes_string w s t el _ _ _ us ue ut, run_bytesToString w _ len C ns hld, foldl_push_ints, n2]
                          have he0 : ByteArray.empty.data = #[] := rfl
                          rw [he0]
                          simp [bs]
                        · cases e
                      · cases e
                    · cases e
                  · cases e
                · cases e
              · cases e
            · cases e
          · cases e
        · cases e
      · rename_i el
        split at e
        · split at e
          · rename_i de hde
            have ue := under_eq k hde
            split at e
            · split at e
              · split at e
                · rename_i l
                  cases e
                  simp only [VR] at hx; subst hx
                  have fr0 : ρ h.nxt = none := fr _ (Nat.le_refl _) (Nat.lt_succ_self _)
                  have hrun := run_bytes_of_string (P := c.P) w s t el (bs l) us ut ue
                  have hge := grownCap_ge w (bs l).size 0 el
                  rw [bs_size] at hrun hge
                  generalize hG : grownCap w l.length 0 el = G at hrun hge
                  have hsz : (bytesRow (bs l) G).size = G := by
                    unfold bytesRow
                    have h2 := bs_size l
                    have h3 : (bs l).data.size = l.length := h2
                    simp [h2, h3]; omega
                  rw [hsz] at hrun
                  have g0 : Good ρ h w ρ h w.drew := Good.draw (Good.refl hr wf) rfl ⟨rfl, rfl, rfl, Nat.le_refl _⟩
                  have hr1 : HR ρ h w.drew := hr.same rfl
                  have g1 : Good ρ h w.drew (upd ρ h.nxt (w.drew.heap.size, G)) (newRow h el l.length .leaf (l.map fun b => .int .u8 (.ofNat (b % 256)))) (w.drew.alloc (.cells (bytesRow (bs l) G) el (G, G + 1))) := by
                    refine Good.newBlock hr1 wf fr0 (.row ⟨el, l.length, .leaf, _, none⟩) _ G (fun r e => by cases e; rfl) ?_
                    refine ⟨?_, hge, fun j hj => ?_, fun j hj => ?_⟩
                    · unfold World.shape?; rw [alloc_at]; simp [hsz]
                    · rw [World.frozen?_alloc_mark]; simp; omega
                    · have hj2 : j < l.length := hj
                      have hj3 : j < (bs l).data.size := by have h2 : (bs l).data.size = l.length := bs_size l; omega
                      refine ⟨_, by rw [World.cell?_alloc_mark]; exact bytesRow_at (bs l) G j hj3, ?_⟩
                      rw [Row.get_new, List.length_map, Nat.mod_eq_of_lt hj2, List.getElem?_map, List.getElem?_eq_getElem hj2]
                      simp [VR, bs]
                  exact ⟨_, _, _, hrun, g0.trans g1, by
                    simp only [VR]
                    exact ⟨_, _, G, upd_same _ _ _, rfl, hge, (fun _ q => by cases q), (fun _ => by omega)⟩⟩
                · cases e
              · cases e
            · cases e
          · cases e
        · cases e
      · cases e
end
end Go.Ax
