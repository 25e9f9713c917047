/-
  AxR: append and copy as they are called; the builtins.
-/
import Derived.Test.YtgmkkplekcekcaaGreatAxQ
set_option linter.unusedVariables false
set_option linter.unusedSimpArgs false
namespace Go.Ax

section
variable {c : Ctx} (k : CtxOk c)
include k

theorem src_zero {e : TypeId} {i : TypeInfo} {zc : List AV} (hi : c.info e = some i) (hz : c.zcells e = some zc) (hl : i.size = zc.length) (ρ : Map) : ∃ Z, i.zero = some Z ∧ Z.cells.size = i.size ∧ VRs ρ zc Z.cells.toList := by
  obtain ⟨it, Z, i1, i2, i3, i4⟩ := zcells_ok k hz ρ
  rw [hi] at i4; cases i4
  exact ⟨Z, i2, by rw [hl, i3.length]; simp, i3⟩

theorem append_ok {ρ : Map} {h h' : Heap} {w : World} (hr : HR ρ h w) (wf : WF h) (fr : Free ρ h.nxt h'.nxt) {t t1 : TypeId} {d1 : TypeDesc} {s x v : AV} {S X : Value} (e : oAppend c h t s x = some (v, h')) (hs : VR ρ s S) (hx : VR ρ x X)
    (ts : Array TypeId) (ht0 : ts[0]? = some t) (ht1 : ts[1]? = some t1) (hu1 : c.P.underlying t1 = some d1) (hni : ∀ k, d1 ≠ .int k) (ty : TypeId) (rest : List Value) :
    ∃ z w' ρ', (Builtin.append_ ts ty (S :: X :: rest).toArray).run c.P w = .ok z w' ∧ Good ρ h w ρ' h' w' ∧ VR ρ' v z := by
  unfold oAppend at e
  split at e
  · rename_i d hd
    have hu := under_eq k hd
    split at e
    · rename_i el
      split at e
      · rename_i i hi
        split at e
        · cases e
        · rename_i zc hz
          split at e
          · cases e
          · rename_i hl
            obtain ⟨Z, z1, z2, z3⟩ := src_zero k hi hz (beqT hl) ρ
            split at e
            · cases e
            · rename_i h0
              split at e
              · cases e
              · rename_i hb
                split at e
                · cases e
                · rename_i m hm
                  split at e
                  · cases e
                  · rename_i cs hcs
                    obtain ⟨s1, news, s2, s3, s4⟩ := src_ok (P := c.P) hr hx hm hcs
                    have src : Src c.P w ts i Z X m news := ⟨.inl ⟨t1, d1, ht1, hu1, hni, s1, fun w' hw => by
                      have := s4 w' hw m (Nat.le_refl _)
                      rwa [← s3, List.take_length] at this⟩, s3, z1, z2, beqN h0, bleT hb⟩
                    exact appCells_ok hr wf fr src ht0 hu (k.tys _ _ hi) rest s2 hs e
      · cases e
    · cases e
  · cases e

theorem appendZ_ok {ρ : Map} {h h' : Heap} {w : World} (hr : HR ρ h w) (wf : WF h) (fr : Free ρ h.nxt h'.nxt) {t t1 : TypeId} {k1 : IntKind} {s x v : AV} {S X : Value} (e : oAppendZ c h t s x = some (v, h')) (hs : VR ρ s S) (hx : VR ρ x X)
    (ts : Array TypeId) (ht0 : ts[0]? = some t) (ht1 : ts[1]? = some t1) (hu1 : c.P.underlying t1 = some (.int k1)) (ty : TypeId) (rest : List Value) :
    ∃ z w' ρ', (Builtin.append_ ts ty (S :: X :: rest).toArray).run c.P w = .ok z w' ∧ Good ρ h w ρ' h' w' ∧ VR ρ' v z := by
  unfold oAppendZ at e
  split at e
  · rename_i d hd
    have hu := under_eq k hd
    split at e
    · rename_i el
      split at e
      · rename_i i hi
        split at e
        · cases e
        · rename_i h0
          split at e
          · cases e
          · rename_i hb
            split at e
            · rename_i kx n
              split at e
              · cases e
              · rename_i m hm
                obtain ⟨rfl, hmle⟩ := upTo_ok hm
                split at e
                · cases e
                · rename_i zc hz
                  split at e
                  · cases e
                  · rename_i hl
                    obtain ⟨Z, z1, z2, z3⟩ := src_zero k hi hz (beqT hl) ρ
                    simp only [VR] at hx; subst hx
                    have h0' := beqN h0
                    have hl' := beqT hl
                    have hmade := made_ok z3 m (by omega)
                    have hzc : Builtin.zeroCells Z.cells m = madeCells Z.cells (m * zc.length) := by
                      unfold Builtin.zeroCells madeCells
                      rw [z2, hl']
                    have src : Src c.P w ts i Z (.int kx (m : Int)) m (Builtin.zeroCells Z.cells m).toList := ⟨.inr ⟨t1, k1, kx, ht1, hu1, rfl, hmle, rfl⟩, by simp [zeroCells_size, z2], z1, z2, h0', bleT hb⟩
                    exact appCells_ok hr wf fr src ht0 hu (k.tys _ _ hi) rest (by rw [hzc]; exact hmade) hs e
            · cases e
      · cases e
    · cases e
  · cases e

theorem copy_ok {ρ : Map} {h h' : Heap} {w : World} (hr : HR ρ h w) (wf : WF h) {t : TypeId} {d s v : AV} {D S : Value} (e : oCopy c h t d s = some (v, h')) (hd : VR ρ d D) (hs : VR ρ s S)
    (ts : Array TypeId) (ht0 : ts[0]? = some t) (ty : TypeId) (rest : List Value) :
    ∃ z w', (Builtin.copy_ ts ty (D :: S :: rest).toArray).run c.P w = .ok z w' ∧ Good ρ h w ρ h' w' ∧ VR ρ v z := by
  unfold oCopy at e
  split at e
  · rename_i dt hdt
    have hu := under_eq k hdt
    split at e
    · rename_i el
      split at e
      · rename_i z hz
        split at e
        · cases e
        · rename_i m hm
          split at e
          · cases e
          · rename_i n hn
            split at e
            · cases e
            · rename_i cs hcs
              obtain ⟨s1, news, s2, s3, s4⟩ := src_ok (P := c.P) hr hs hm hcs
              have hfc := s4 w rfl (min m n) (Nat.min_le_left _ _)
              have hD : ∃ base C, D = .slice base n C := by
                unfold dstLen at hn
                split at hn
                · cases hn; simp only [VR] at hd; exact ⟨_, _, hd⟩
                · cases hn; simp only [VR] at hd; obtain ⟨B, N, o, C, hp, rfl⟩ := hd; exact ⟨_, _, rfl⟩
                · cases hn; simp only [VR] at hd; obtain ⟨B, N, C, hp, rfl, _⟩ := hd; exact ⟨_, _, rfl⟩
                · cases hn
              split at e
              · rename_i h0
                have h0 := beqT h0
                cases e
                obtain ⟨base, C, rfl⟩ := hD
                rw [h0, Nat.zero_mul, List.take_zero] at hfc
                have h0' : Nat.min m n = 0 := h0
                refine ⟨goInt 0, w, ?_, Good.refl hr wf, by simp [VR, goInt]⟩
                cases base <;> simp [Builtin.copy_, ht0, run_underlying hu, s1, h0', run_size k hz, hfc, storeCells]
              · split at e
                · rename_i id off len cap z'
                  split at e
                  · cases e
                  · rename_i hzz
                    obtain rfl := beqT hzz
                    split at e
                    · rename_i h1 hw
                      cases e
                      simp only [VR] at hd
                      obtain ⟨B, N, C, hp, rfl, _⟩ := hd
                      obtain ⟨b0, C0, q⟩ := hD
                      cases q
                      obtain ⟨g, g1, g2, g3⟩ := wCells_ok hr wf hw hp (s2.take _)
                      have hst := run_storeCells_cells (P := c.P) B off (news.take (min m n * z)) 0 w (by simpa using g1) (by simpa using g2) g3
                      simp only [Nat.add_zero] at hst
                      refine ⟨goInt (min m n : Nat), _, ?_, g, by simp only [VR, goInt]; rfl⟩
                      have hfc' : (Builtin.firstCells z (m.min n) S).run c.P w = .ok (news.take (min m n * z)).toArray w := hfc
                      simp [Builtin.copy_, ht0, run_underlying hu, s1, run_size k hz, hfc', hst]
                    · cases e
                · cases e
      · cases e
    · cases e
  · cases e
end
end Go.Ax
