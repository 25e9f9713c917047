/-
  AxR: append and copy as they are called; the builtins.
-/
import Derived.Test.YtaopfnhkfedemaaGreatDoorAxQ
import Derived.Lib.UnsafeStr
import Derived.ChangeKeysEq
set_option linter.unusedVariables false
set_option linter.unusedSimpArgs false
namespace Go.Ax

theorem size_freeze (w : World) (a : Addr) (n : Nat) : (w.freeze a n).heap.size = w.heap.size := by
  unfold World.freeze; split <;> simp
theorem freeze_block (w : World) (B off n : Nat) {C : Nat} (h : C ≠ B) : (w.freeze ⟨B, off, none⟩ n).heap[C]? = w.heap[C]? := by
  unfold World.freeze; split
  · rfl
  · simp [Array.getElem?_modify, Ne.symm h]
theorem same_freeze (w : World) (a : Addr) (n : Nat) : Same w (w.freeze a n) := by
  refine ⟨?_, ?_, ?_, by rw [size_freeze]; exact Nat.le_refl _⟩ <;> (unfold World.freeze; split <;> rfl)
section
variable {c : Ctx} (k : CtxOk c)
include k

theorem src_zero {e : TypeId} {i : TypeInfo} {zc : List AV} (hi : c.info e = some i) (hz : c.zcells e = some zc) (hl : i.size = zc.length) (ρ : Map) : ∃ Z, i.zero = some Z ∧ Z.cells.size = i.size ∧ VRs ρ zc Z.cells.toList := by
  obtain ⟨it, Z, i1, i2, i3, i4⟩ := zcells_ok k hz ρ
  rw [hi] at i4; cases i4
  exact ⟨Z, i2, by rw [hl, i3.length]; simp, i3⟩

theorem append_ok {ρ : Map} {h h' : Heap} {w : World} (hr : HR ρ h w) (wf : WF h) (fr : Free ρ h.nxt h'.nxt) {t t1 : TypeId} {d1 : TypeDesc} {s x v : AV} {S X : Value} (e : oAppend c h t s x = some (v, h')) (hs : VR ρ s S) (hx : VR ρ x X)
    (ts : Array TypeId) (ht0 : ts[0]? = some t) (ht1 : ts[1]? = some t1) (hu1 : c.P.underlying t1 = some d1) (hni : ∀ k, d1 ≠ .int k) (ty : TypeId) (rest : List Value) :
    ∃ z w' ρ', (Builtin.append_ ts ty (S :: X :: rest).toArray).run c.P w = .ok z w' ∧ Good ρ h w ρ' h' w' ∧ VR ρ' v z := by
  unfold oAppend at e
  split at e
  · rename_i d hd
    have hu := under_eq k hd
    split at e
    · rename_i el
      split at e
      · rename_i i hi
        split at e
        · cases e
        · rename_i zc hz
          split at e
          · cases e
          · rename_i hl
            obtain ⟨Z, z1, z2, z3⟩ := src_zero k hi hz (beqT hl) ρ
            split at e
            · cases e
            · rename_i h0
              split at e
              · cases e
              · rename_i hb
                split at e
                · cases e
                · rename_i m hm
                  split at e
                  · cases e
                  · rename_i cs hcs
                    obtain ⟨s1, news, s2, s3, s4⟩ := src_ok (P := c.P) hr hx hm hcs
                    have src : Src c.P w ts i Z X m news := ⟨.inl ⟨t1, d1, ht1, hu1, hni, s1, fun w' hw => by
                      have := s4 w' hw m (Nat.le_refl _)
                      rwa [← s3, List.take_length] at this⟩, s3, z1, z2, beqN h0, bleT hb⟩
                    exact appCells_ok hr wf fr src ht0 hu (k.tys _ _ hi) rest s2 hs e
      · cases e
    · cases e
  · cases e

theorem appendZ_ok {ρ : Map} {h h' : Heap} {w : World} (hr : HR ρ h w) (wf : WF h) (fr : Free ρ h.nxt h'.nxt) {t t1 : TypeId} {k1 : IntKind} {s x v : AV} {S X : Value} (e : oAppendZ c h t s x = some (v, h')) (hs : VR ρ s S) (hx : VR ρ x X)
    (ts : Array TypeId) (ht0 : ts[0]? = some t) (ht1 : ts[1]? = some t1) (hu1 : c.P.underlying t1 = some (.int k1)) (ty : TypeId) (rest : List Value) :
    ∃ z w' ρ', (Builtin.append_ ts ty (S :: X :: rest).toArray).run c.P w = .ok z w' ∧ Good ρ h w ρ' h' w' ∧ VR ρ' v z := by
  unfold oAppendZ at e
  split at e
  · rename_i d hd
    have hu := under_eq k hd
    split at e
    · rename_i el
      split at e
      · rename_i i hi
        split at e
        · cases e
        · rename_i h0
          split at e
          · cases e
          · rename_i hb
            split at e
            · rename_i kx n
              split at e
              · cases e
              · rename_i m hm
                obtain ⟨rfl, hmle⟩ := upTo_ok hm
                split at e
                · cases e
                · rename_i zc hz
                  split at e
                  · cases e
                  · rename_i hl
                    obtain ⟨Z, z1, z2, z3⟩ := src_zero k hi hz (beqT hl) ρ
                    simp only [VR] at hx; subst hx
                    have h0' := beqN h0
                    have hl' := beqT hl
                    have hmade := made_ok z3 m (by omega)
                    have hzc : Builtin.zeroCells Z.cells m = madeCells Z.cells (m * zc.length) := by
                      unfold Builtin.zeroCells madeCells
                      rw [z2, hl']
                    have src : Src c.P w ts i Z (.int kx (m : Int)) m (Builtin.zeroCells Z.cells m).toList := ⟨.inr ⟨t1, k1, kx, ht1, hu1, rfl, hmle, rfl⟩, by simp [zeroCells_size, z2], z1, z2, h0', bleT hb⟩
                    exact appCells_ok hr wf fr src ht0 hu (k.tys _ _ hi) rest (by rw [hzc]; exact hmade) hs e
            · cases e
      · cases e
    · cases e
  · cases e

theorem copy_ok {ρ : Map} {h h' : Heap} {w : World} (hr : HR ρ h w) (wf : WF h) {t : TypeId} {d s v : AV} {D S : Value} (e : oCopy c h t d s = some (v, h')) (hd : VR ρ d D) (hs : VR ρ s S)
    (ts : Array TypeId) (ht0 : ts[0]? = some t) (ty : TypeId) (rest : List Value) :
    ∃ z w', (Builtin.copy_ ts ty (D :: S :: rest).toArray).run c.P w = .ok z w' ∧ Good ρ h w ρ h' w' ∧ VR ρ v z := by
  unfold oCopy at e
  split at e
  · rename_i dt hdt
    have hu := under_eq k hdt
    split at e
    · rename_i el
      split at e
      · rename_i z hz
        split at e
        · cases e
        · rename_i m hm
          split at e
          · cases e
          · rename_i n hn
            split at e
            · cases e
            · rename_i cs hcs
              obtain ⟨s1, news, s2, s3, s4⟩ := src_ok (P := c.P) hr hs hm hcs
              have hfc := s4 w rfl (min m n) (Nat.min_le_left _ _)
              have hD : ∃ base C, D = .slice base n C := by
                unfold dstLen at hn
                split at hn
                · cases hn; simp only [VR] at hd; exact ⟨_, _, hd⟩
                · cases hn; simp only [VR] at hd; obtain ⟨B, N, o, C, hp, rfl⟩ := hd; exact ⟨_, _, rfl⟩
                · cases hn; simp only [VR] at hd; obtain ⟨B, N, C, hp, rfl, _⟩ := hd; exact ⟨_, _, rfl⟩
                · cases hn
              split at e
              · rename_i h0
                have h0 := beqT h0
                cases e
                obtain ⟨base, C, rfl⟩ := hD
                rw [h0, Nat.zero_mul, List.take_zero] at hfc
                have h0' : Nat.min m n = 0 := h0
                refine ⟨goInt 0, w, ?_, Good.refl hr wf, by simp [VR, goInt]⟩
                cases base <;> simp [Builtin.copy_, ht0, run_underlying hu, s1, h0', run_size k hz, hfc, storeCells]
              · split at e
                · rename_i id off len cap z'
                  split at e
                  · cases e
                  · rename_i hzz
                    obtain rfl := beqT hzz
                    split at e
                    · rename_i h1 hw
                      cases e
                      simp only [VR] at hd
                      obtain ⟨B, N, C, hp, rfl, _⟩ := hd
                      obtain ⟨b0, C0, q⟩ := hD
                      cases q
                      obtain ⟨g, g1, g2, g3⟩ := wCells_ok hr wf hw hp (s2.take _)
                      have hst := run_storeCells_cells (P := c.P) B off (news.take (min m n * z)) 0 w (by simpa using g1) (by simpa using g2) g3
                      simp only [Nat.add_zero] at hst
                      refine ⟨goInt (min m n : Nat), _, ?_, g, by simp only [VR, goInt]; rfl⟩
                      have hfc' : (Builtin.firstCells z (m.min n) S).run c.P w = .ok (news.take (min m n * z)).toArray w := hfc
                      simp [Builtin.copy_, ht0, run_underlying hu, s1, run_size k hz, hfc', hst]
                    · cases e
                · cases e
      · cases e
    · cases e
  · cases e

theorem clear_ok {ρ : Map} {h h' : Heap} {w : World} (hr : HR ρ h w) (wf : WF h) {t : TypeId} {x : AV} {X : Value} (e : oClear c h t x = some h') (hx : VR ρ x X)
    (ts : Array TypeId) (ht0 : ts[0]? = some t) (ty : TypeId) (rest : List Value) :
    ∃ w', (Builtin.clear_ ts ty (X :: rest).toArray).run c.P w = .ok (.tuple #[]) w' ∧ Good ρ h w ρ h' w' := by
  unfold oClear at e
  split at e
  · rename_i dt hdt
    have hu := under_eq k hdt
    split at e
    · rename_i el
      split at e
      · cases e
        simp only [VR] at hx; subst hx
        exact ⟨w, by simp [Builtin.clear_, ht0, run_underlying hu], Good.refl hr wf⟩
      · cases e
        simp only [VR] at hx; obtain ⟨B, N, o, C, hp, rfl⟩ := hx
        exact ⟨w, by simp [Builtin.clear_, ht0, run_underlying hu], Good.refl hr wf⟩
      · rename_i id off len cap z
        split at e
        · rename_i i hi
          split at e
          · cases e
          · rename_i zc hz
            split at e
            · cases e
            · rename_i hl
              split at e
              · cases e
              · rename_i hzz
                split at e
                · cases e
                · rename_i h0
                  obtain ⟨Z, z1, z2, z3⟩ := src_zero k hi hz (beqT hl) ρ
                  have h0' := beqN h0
                  have hl' := beqT hl
                  have hzz' := beqT hzz
                  simp only [VR] at hx
                  obtain ⟨B, N, C, hp, rfl, _⟩ := hx
                  split at e
                  · rename_i hn
                    have hn := beqT hn
                    subst hn
                    cases e
                    exact ⟨w, by simp [Builtin.clear_, ht0, run_underlying hu], Good.refl hr wf⟩
                  · rename_i hn
                    have hn := beqN hn
                    have hmade := made_ok z3 len (by omega)
                    have hzc : Builtin.zeroCells Z.cells len = madeCells Z.cells (len * zc.length) := by
                      unfold Builtin.zeroCells madeCells
                      rw [z2, hl']
                    rw [← hzc] at hmade
                    obtain ⟨g, g1, g2, g3⟩ := wCells_ok hr wf e hp hmade
                    have hst := run_storeCells_cells (P := c.P) B off (Builtin.zeroCells Z.cells len).toList 0 w (by simpa using g1) (by simpa using g2) g3
                    simp only [Nat.add_zero] at hst
                    refine ⟨_, ?_, g⟩
                    obtain ⟨q, rfl⟩ : ∃ q, len = q + 1 := ⟨len - 1, by omega⟩
                    have hzv : (zeroValue el).run c.P w = .ok Z w := by simp [zeroValue, run_info k hi, z1]
                    simp [Builtin.clear_, ht0, run_underlying hu, hzv, hst]
        · cases e
      · cases e
    · cases e
  · cases e

omit k in
theorem loadBytesC_ok {P : Program} {w : World} {B : Nat} : ∀ (ns : List Int) (off : Nat) (acc : ByteArray), (∀ (j : Nat) v, (ns.map (Value.int .u8))[j]? = some v → w.cell? ⟨B, off + j, none⟩ = some v) →
    (loadBytes ⟨B, off, none⟩ acc ns.length).run P w = .ok ⟨acc.data ++ ((ns.map Int.toNat).map UInt8.ofNat).toArray⟩ w
  | [], off, acc, h => by simp [loadBytes]
  | n :: ns, off, acc, h => by
    have h0 : w.cell? ⟨B, off, none⟩ = some (.int .u8 n) := by simpa using h 0 (.int .u8 n) rfl
    have ih := loadBytesC_ok (P := P) ns (off + 1) (acc.push n.toNat.toUInt8) (fun j v hv => by
      have := h (j + 1) v (by simpa using hv)
      rw [show off + 1 + j = off + (j + 1) by omega]; exact this)
    simp only [List.length_cons, loadBytes, Sem.run_bind, run_load, h0, Result.andThen_ok, add_off]
    rw [ih]
    simp [ByteArray.push, Nat.toUInt8]

theorem ustr_ok {ρ : Map} {h h' : Heap} {w : World} (hr : HR ρ h w) (wf : WF h) {pt : TypeId} {p n v : AV} {X Y : Value} (e : oUStr c h pt p n = some (v, h')) (hx : VR ρ p X) (hy : VR ρ n Y)
    (ts : Array TypeId) (ht0 : ts[0]? = some pt) (ty : TypeId) :
    ∃ z w', (Builtin.unsafeString_ ts ty #[X, Y]).run c.P w = .ok z w' ∧ Good ρ h w ρ h' w' ∧ VR ρ v z := by
  have hdef : ∀ (a : Option Addr) (y : Value), Builtin.unsafeString_ ts ty #[.pointer a, y] = (do
      let n ← asInt y
      let some pt := ts[0]? | stuck "unsafe.String: no argument types"
      if n < 0 then runtimePanic (.error "unsafe.String: len out of range")
      if n > IntKind.i64.max then unsupported (.unsafePointer "String: a length above the largest int")
      match a with
      | none =>
        if n = 0 then pure (.string .empty)
        else runtimePanic (.error "unsafe.String: ptr is nil and len is not zero")
      | some a =>
        if n = 0 then pure (.string .empty)
        else if ← variablesAt a (← elemOf pt) n.toNat then do
          let s ← loadBytes a .empty n.toNat
          freeze a n.toNat
          pure (.string s)
        else unsupported (.unsafePointer "String: not so many bytes at ptr")) := fun a y => by cases a <;> rfl
  have hmax : IntKind.i64.max = 9223372036854775807 := rfl
  unfold oUStr at e
  split at e
  · rename_i m0
    simp only [VR] at hy; subst hy
    split at e
    · split at e
      · cases e
      · rename_i m hm
        obtain ⟨rfl, hle⟩ := upTo_ok hm
        have hneg : ¬ ((m : Int) < 0) := by omega
        have hbig : ¬ ((9223372036854775807 : Int) < (m : Int)) := by omega
        split at e
        · rename_i hm0
          obtain rfl := beqT hm0
          split at e
          · cases e
            simp only [VR] at hx; subst hx
            refine ⟨.string .empty, w, ?_, Good.refl hr wf, by simp only [VR]; rfl⟩
            rw [hdef]; simp [ht0, asInt, asIntOf, hmax]
          · cases e
            simp only [VR] at hx; obtain ⟨B, N, hp, rfl⟩ := hx
            refine ⟨.string .empty, w, ?_, Good.refl hr wf, by simp only [VR]; rfl⟩
            rw [hdef]; simp [ht0, asInt, asIntOf, hmax]
          · cases e
        · rename_i hm0
          have hm0 := beqN hm0
          split at e
          · rename_i id off
            split at e
            · cases e
            · rename_i hoff
              obtain rfl := beqT hoff
              split at e
              · rename_i d hd
                have hu := under_eq k hd
                split at e
                · rename_i el
                  split at e
                  · rename_i z hz
                    split at e
                    · cases e
                    · rename_i hz1
                      obtain rfl := beqT hz1
                      split at e
                      · cases e
                      · rename_i r h1 hmine
                        split at e
                        · cases e
                        · rename_i hrt
                          have hrt := beqT hrt
                          split at e
                          · cases e
                          · rename_i hmn
                            have hmn := bleT hmn
                            split at e
                            · rename_i l hl
                              cases e
                              simp only [VR] at hx
                              obtain ⟨B, N, hp, rfl⟩ := hx
                              obtain ⟨s, hs, hok, hrs, _⟩ := Heap.mine_spec hmine
                              have ro := hr.ok id B N hp hok
                              rw [hs] at ro
                              have ro : RowOk ρ r B N w := by rw [hrs]; exact ro
                              obtain ⟨L, l1, l2, l3⟩ := RowOk.reads ro m 0 (by omega)
                              obtain ⟨ns, n1, n2⟩ := bytesA_ok _ L l hl l1
                              have hlen : ns.length = m := by rw [← l2, n1]; simp
                              have hlb := loadBytesC_ok (P := c.P) (w := w) (B := B) ns 0 ByteArray.empty (fun j v hv => l3 j v (by rw [n1]; exact hv))
                              rw [hlen, n2] at hlb
                              have hsh : w.shape? B = some (el, N) := by rw [ro.1, hrt]
                              have hc1 : c.P.cellsOf el = 1 := by
                                have h2 := run_size k hz w
                                have h3 : (sizeOf el).run c.P w = .ok (c.P.cellsOf el) w := by
                                  unfold Ctx.size at hz
                                  cases hi : c.info el with
                                  | none => rw [hi] at hz; cases hz
                                  | some i => exact run_sizeOf w (k.tys el i hi)
                                rw [h3] at h2; injection h2
                              have hN := ro.2.1
                              have hlies := Lib.liesAt_bytes (P := c.P) hc1 (N / c.P.cellsOf el) m (by rw [hc1, Nat.div_one]; omega)
                              refine ⟨.string (bs l), w.freeze ⟨B, 0, none⟩ m, ?_, ?_, by simp only [VR]⟩
                              · rw [hdef]
                                have he0 : ByteArray.empty.data = #[] := rfl
                                rw [he0] at hlb
                                simp [ht0, asInt, asIntOf, hmax, hneg, hbig, hm0, variablesAt, hsh, elemOf, run_underlying hu, hlies, hlb, bs]
                              · exact Good.writeAny hr wf hp hmine (b' := .none) (fun x q => by cases q) (fun x q => by cases q) trivial (fun C hC => freeze_block w B 0 m hC) (same_freeze w _ _) (size_freeze w _ _)
                            · cases e
                  · cases e
                · cases e
              · cases e
          · cases e
    · cases e
  · cases e

omit k in
theorem sdata_ok {P : Program} {ρ : Map} {w : World} {x v : AV} {X : Value} (e : oSData x = some v) (hx : VR ρ x X) (ts : Array TypeId) (ty : TypeId) :
    ∃ z, (Builtin.unsafeSliceData_ ts ty #[X]).run P w = .ok z w ∧ VR ρ v z := by
  unfold oSData at e
  split at e
  · cases e; simp only [VR] at hx; subst hx
    exact ⟨.pointer none, rfl, by simp only [VR]⟩
  · rename_i id off len cap z
    split at e
    · cases e
    · rename_i hl
      have hl := beqN hl
      cases e
      simp only [VR] at hx
      obtain ⟨B, N, C, hp, rfl, hle, _⟩ := hx
      exact ⟨.pointer (some ⟨B, off, none⟩), Lib.run_unsafeSliceData_row (P := P) w ts ty _ len C (by omega), by simp only [VR]; exact ⟨B, N, hp, rfl⟩⟩
  · cases e
end
end Go.Ax
