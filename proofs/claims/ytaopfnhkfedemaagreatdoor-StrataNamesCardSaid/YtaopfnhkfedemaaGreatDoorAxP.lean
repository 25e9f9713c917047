/-
  AxP: append, copy.
-/
import Derived.Test.YtaopfnhkfedemaaGreatDoorAxO
import Derived.ArgAppend
set_option linter.unusedVariables false
set_option linter.unusedSimpArgs false
namespace Go.Ax

theorem u8s_ok (ρ : Map) (l : List Nat) : VRs ρ (l.map fun b => AV.int .u8 (.ofNat (b % 256))) ((l.map UInt8.ofNat).map fun b => Value.int .u8 (b.toNat : Int)) := by
  induction l with
  | nil => simp [VRs]
  | cons b l ih => simp only [List.map_cons, VRs]; exact ⟨_, _, by simp only [VR]; simp, ih, rfl⟩

/-- WHAT IS APPENDED, OR COPIED. -/
theorem src_ok {P : Program} {ρ : Map} {h : Heap} {w : World} (hr : HR ρ h w) {x : AV} {X : Value} {z m : Nat} {cs : List AV} (hx : VR ρ x X) (e1 : srcLen x = some m) (e2 : srcCells h x z = some cs) :
    (∀ w', (Builtin.lenOf X).run P w' = .ok m w') ∧ ∃ news, VRs ρ cs news ∧ news.length = m * z ∧ ∀ w', w'.heap = w.heap → ∀ n, n ≤ m → (Builtin.firstCells z n X).run P w' = .ok (news.take (n * z)).toArray w' := by
  unfold srcLen at e1
  split at e1
  · cases e1; cases e2
    simp only [VR] at hx; subst hx
    exact ⟨fun w' => by simp [Builtin.lenOf], [], by simp [VRs], by simp, fun w' _ n hn => by simp [Builtin.firstCells]⟩
  · cases e1; cases e2
    simp only [VR] at hx
    obtain ⟨B, N, o, C, hp, rfl⟩ := hx
    refine ⟨fun w' => by simp [Builtin.lenOf], [], by simp [VRs], by simp, fun w' _ n hn => ?_⟩
    obtain rfl : n = 0 := by omega
    simp [Builtin.firstCells, loadCells, loadCellsFrom]
  · rename_i l
    cases e1
    unfold srcCells at e2
    simp only [] at e2
    split at e2
    · rename_i hz
      obtain rfl := beqT hz
      cases e2
      simp only [VR] at hx; subst hx
      refine ⟨fun w' => by simp [Builtin.lenOf, bs_size], _, u8s_ok ρ l, by simp, fun w' _ n hn => ?_⟩
      simp only [Builtin.firstCells, Sem.run_pure]
      congr 1
      apply Array.ext'
      rw [Array.toList_map, ByteArray.data_extract, Array.toList_extract]
      simp [bs, List.extract_eq_take_drop, List.map_take]
    · cases e2
  · rename_i id off len cap z'
    cases e1
    unfold srcCells at e2
    simp only [] at e2
    split at e2
    · cases e2
    · rename_i hz
      obtain rfl := beqT hz
      split at e2
      · rename_i r hrow
        split at e2
        · rename_i hb
          cases e2
          have hb := bleT hb
          simp only [VR] at hx
          obtain ⟨B, N, C, hp, rfl, _⟩ := hx
          have ro := hr.rowAt hrow hp
          obtain ⟨L, l1, l2, l3⟩ := RowOk.reads ro (m * z) off hb
          refine ⟨fun w' => by simp [Builtin.lenOf], L, l1, l2, fun w' hw n hn => ?_⟩
          have hle : n * z ≤ m * z := Nat.mul_le_mul_right z hn
          refine run_firstCells_some (P := P) w' z n ⟨B, off, none⟩ m C (L.take (n * z)) (by rw [List.length_take, l2]; omega) (fun j u hj => ?_)
          rw [List.getElem?_take] at hj
          split at hj
          · rw [add_off, show w'.cell? ⟨B, off + j, none⟩ = w.cell? ⟨B, off + j, none⟩ from by simp [World.cell?, hw]]
            exact l3 j u hj
          · cases hj
        · cases e2
      · cases e2
  · cases e1

section
variable {P : Program} (w : World)
/-- room, whatever is appended -/
theorem append_room (ts : Array TypeId) (ty t t1 e : TypeId) (d1 : TypeDesc) (i : TypeInfo) (ht0 : ts[0]? = some t) (ht1 : ts[1]? = some t1) (hu1 : P.underlying t1 = some d1) (hni : ∀ k, d1 ≠ .int k)
    (ht : P.underlying t = some (.slice e)) (hi : P.info? e = some i) (base : Option Addr) (sLen sCap m : Nat) (X : Value) (rest news : List Value)
    (hl : (Builtin.lenOf X).run P w = .ok m w) (hn : (Builtin.firstCells i.size m X).run P w = .ok news.toArray w) (hroom : sLen + m ≤ sCap) {w' : World}
    (hst : (match base with | none => w' = w | some a => (storeCells (a.add (sLen * i.size)) news).run P w = .ok () w')) :
    (Builtin.append_ ts ty (.slice base sLen sCap :: X :: rest).toArray).run P w = .ok (.slice base (sLen + m) sCap) w' := by
  cases base with
  | none =>
    simp only at hst; subst hst
    simp [Builtin.append_, ht0, ht1, run_underlying ht, run_underlying hu1, sizeOf, typeInfo, hi]
    simp [hl, hroom, hn]
  | some a =>
    simp only at hst
    simp [Builtin.append_, ht0, ht1, run_underlying ht, run_underlying hu1, sizeOf, typeInfo, hi]
    simp [hl, hroom, hn, hst]

/-- no room -/
theorem append_grow (ts : Array TypeId) (ty t t1 e : TypeId) (d1 : TypeDesc) (i : TypeInfo) (z : Value) (ht0 : ts[0]? = some t) (ht1 : ts[1]? = some t1) (hu1 : P.underlying t1 = some d1) (hni : ∀ k, d1 ≠ .int k)
    (ht : P.underlying t = some (.slice e)) (hi : P.info? e = some i) (hz : i.zero = some z) (base : Option Addr) (sLen sCap m : Nat) (X : Value) (rest olds news : List Value)
    (hl : (Builtin.lenOf X).run P w = .ok m w) (hn : (Builtin.firstCells i.size m X).run P w.drew = .ok news.toArray w.drew) (ho : (Builtin.firstCells i.size sLen (.slice base sLen sCap)).run P w.drew = .ok olds.toArray w.drew)
    (hg : sCap < sLen + m) (h63 : sLen + m ≤ 1000000) (hb : i.bytes ≤ 1000) :
    (Builtin.append_ ts ty (.slice base sLen sCap :: X :: rest).toArray).run P w = .ok (.slice (some ⟨w.heap.size, 0, none⟩) (sLen + m) (grownCap w (sLen + m) sCap e))
      (w.drew.alloc (.cells (olds.toArray ++ news.toArray ++ Builtin.zeroCells z.cells (grownCap w (sLen + m) sCap e - (sLen + m))) e)) := by
  have hn1 : ¬ (sLen + m ≤ sCap) := by omega
  have h63' : ¬ (9223372036854775807 < ((sLen : Int) + (m : Int))) := by omega
  have hb2 : (sLen + m) * i.bytes ≤ 1000000 * 1000 := Nat.mul_le_mul h63 hb
  have h48' : ¬ (281474976710656 < Builtin.nextslicecap (sLen + m) sCap * i.bytes) := by
    have := growslice_fits hg (bytes := i.bytes) (by omega); omega
  simp [Builtin.append_, ht0, ht1, run_underlying ht, run_underlying hu1, sizeOf, typeInfo, hi]
  simp [hl, hn1, h63', h48', zeroValue, typeInfo, hi, hz, Question.forced, hn, ho, Go.newRow, grownCap]
  congr 2
  apply Array.ext'
  simp [List.append_assoc]

theorem wrap_small (m : Nat) (h : m ≤ 1000000) : IntKind.i64.wrap (m : Int) = m := by
  rw [← wr_eq]
  have h1 : um .i64 (Int.ofNat m) = m := by simp [um, pw]; omega
  have h2 : Nat.ble (pw .i64) (2 * m) = false := by
    cases e : Nat.ble (pw .i64) (2 * m)
    · rfl
    · have := bleT e; simp [pw] at this; omega
  show wr .i64 (Int.ofNat m) = _
  unfold wr
  rw [h1, h2]; rfl

/-- room for zeros -/
theorem append_room0 (ts : Array TypeId) (ty t t1 e : TypeId) (k1 : IntKind) (i : TypeInfo) (z : Value) (ht0 : ts[0]? = some t) (ht1 : ts[1]? = some t1) (hu1 : P.underlying t1 = some (.int k1))
    (ht : P.underlying t = some (.slice e)) (hi : P.info? e = some i) (hz : i.zero = some z) (base : Option Addr) (sLen sCap m : Nat) (kx : IntKind) (rest : List Value)
    (hm0 : m * i.size ≠ 0) (hm : m ≤ 1000000) (hb : i.bytes ≤ 1000) (hroom : sLen + m ≤ sCap) {w' : World}
    (hst : (match base with | none => w' = w | some a => (storeCells (a.add (sLen * i.size)) (Builtin.zeroCells z.cells m).toList).run P w = .ok () w')) :
    (Builtin.append_ ts ty (.slice base sLen sCap :: .int kx (m : Int) :: rest).toArray).run P w = .ok (.slice base (sLen + m) sCap) w' := by
  have hb2 : m * i.bytes ≤ 1000000 * 1000 := Nat.mul_le_mul hm hb
  have hb3 : ¬ (281474976710656 < (m : Int) * (i.bytes : Int)) := by
    have : ((m * i.bytes : Nat) : Int) ≤ 1000000000 := by omega
    rw [Int.natCast_mul] at this; omega
  have hm1 : ¬ (m : Int) < 0 := by omega
  have hm2 : ¬ (m = 0 ∨ i.size = 0) := by rw [← Nat.mul_eq_zero]; exact hm0
  cases base with
  | none =>
    simp only at hst; subst hst
    simp [Builtin.append_, ht0, ht1, run_underlying ht, run_underlying hu1, sizeOf, typeInfo, zeroValue, hi, hz, asInt, asIntOf, wrap_small m hm, hb3, hm1, hroom, hm2]
  | some a =>
    simp only at hst
    simp [Builtin.append_, ht0, ht1, run_underlying ht, run_underlying hu1, sizeOf, typeInfo, zeroValue, hi, hz, asInt, asIntOf, wrap_small m hm, hb3, hm1, hroom, hm2, hst]
    exact fun q => absurd q hm0

theorem append_grow0 (ts : Array TypeId) (ty t t1 e : TypeId) (k1 : IntKind) (i : TypeInfo) (z : Value) (ht0 : ts[0]? = some t) (ht1 : ts[1]? = some t1) (hu1 : P.underlying t1 = some (.int k1))
    (ht : P.underlying t = some (.slice e)) (hi : P.info? e = some i) (hz : i.zero = some z) (base : Option Addr) (sLen sCap m : Nat) (kx : IntKind) (rest olds : List Value)
    (hm0 : m * i.size ≠ 0) (ho : (Builtin.firstCells i.size sLen (.slice base sLen sCap)).run P w.drew = .ok olds.toArray w.drew)
    (hg : sCap < sLen + m) (h63 : sLen + m ≤ 1000000) (hb : i.bytes ≤ 1000) :
    (Builtin.append_ ts ty (.slice base sLen sCap :: .int kx (m : Int) :: rest).toArray).run P w = .ok (.slice (some ⟨w.heap.size, 0, none⟩) (sLen + m) (grownCap w (sLen + m) sCap e))
      (w.drew.alloc (.cells (olds.toArray ++ Builtin.zeroCells z.cells m ++ Builtin.zeroCells z.cells (grownCap w (sLen + m) sCap e - (sLen + m))) e)) := by
  have hm : m ≤ 1000000 := by omega
  have hn1 : ¬ (sLen + m ≤ sCap) := by omega
  have h63' : ¬ (9223372036854775807 < ((sLen : Int) + (m : Int))) := by omega
  have hb2 : (sLen + m) * i.bytes ≤ 1000000 * 1000 := Nat.mul_le_mul h63 hb
  have hb4 : m * i.bytes ≤ 1000000 * 1000 := Nat.mul_le_mul hm hb
  have hb3 : ¬ (281474976710656 < (m : Int) * (i.bytes : Int)) := by
    have : ((m * i.bytes : Nat) : Int) ≤ 1000000000 := by omega
    rw [Int.natCast_mul] at this; omega
  have hm1 : ¬ (m : Int) < 0 := by omega
  have hm2 : ¬ (m = 0 ∨ i.size = 0) := by rw [← Nat.mul_eq_zero]; exact hm0
  have h48' : ¬ (281474976710656 < Builtin.nextslicecap (sLen + m) sCap * i.bytes) := by
    have := growslice_fits hg (bytes := i.bytes) (by omega); omega
  simp [Builtin.append_, ht0, ht1, run_underlying ht, run_underlying hu1, sizeOf, typeInfo, zeroValue, hi, hz, asInt, asIntOf, wrap_small m hm, hb3, hm1, hn1, h63', h48', hm2, Question.forced, ho, Go.newRow, grownCap]
  exact fun q => absurd q hm0
end

/-- WHAT IS APPENDED, told to the model: 'm' elements, their cells 'news'. -/
structure Src (P : Program) (w : World) (ts : Array TypeId) (i : TypeInfo) (Z : Value) (X : Value) (m : Nat) (news : List Value) : Prop where
  how : (∃ t1 d1, ts[1]? = some t1 ∧ P.underlying t1 = some d1 ∧ (∀ k, d1 ≠ .int k) ∧ (∀ w', (Builtin.lenOf X).run P w' = .ok m w') ∧ ∀ w', w'.heap = w.heap → (Builtin.firstCells i.size m X).run P w' = .ok news.toArray w') ∨
        (∃ t1 k1 kx, ts[1]? = some t1 ∧ P.underlying t1 = some (.int k1) ∧ X = .int kx (m : Int) ∧ m ≤ 1000000 ∧ news = (Builtin.zeroCells Z.cells m).toList)
  len : news.length = m * i.size
  info : i.zero = some Z
  zsize : Z.cells.size = i.size
  size : i.size ≠ 0
  bytes : i.bytes ≤ 1000

theorem Src.room {P : Program} {w : World} {ts : Array TypeId} {i : TypeInfo} {Z X : Value} {m : Nat} {news : List Value} (s : Src P w ts i Z X m news) {ty t e : TypeId} (ht0 : ts[0]? = some t) (ht : P.underlying t = some (.slice e)) (hi : P.info? e = some i)
    (base : Option Addr) (sLen sCap : Nat) (rest : List Value) (hm0 : m ≠ 0) (hroom : sLen + m ≤ sCap) {w' : World}
    (hst : (match base with | none => w' = w | some a => (storeCells (a.add (sLen * i.size)) news).run P w = .ok () w')) :
    (Builtin.append_ ts ty (.slice base sLen sCap :: X :: rest).toArray).run P w = .ok (.slice base (sLen + m) sCap) w' := by
  rcases s.how with ⟨t1, d1, h1, h2, h3, h4, h5⟩ | ⟨t1, k1, kx, h1, h2, rfl, hm, rfl⟩
  · exact append_room w ts ty t t1 e d1 i ht0 h1 h2 h3 ht hi base sLen sCap m X rest news (h4 w) (h5 w rfl) hroom hst
  · exact append_room0 w ts ty t t1 e k1 i Z ht0 h1 h2 ht hi s.info base sLen sCap m kx rest (Nat.mul_ne_zero hm0 s.size) hm s.bytes hroom hst

theorem Src.grow {P : Program} {w : World} {ts : Array TypeId} {i : TypeInfo} {Z X : Value} {m : Nat} {news : List Value} (s : Src P w ts i Z X m news) {ty t e : TypeId} (ht0 : ts[0]? = some t) (ht : P.underlying t = some (.slice e)) (hi : P.info? e = some i)
    (base : Option Addr) (sLen sCap : Nat) (rest olds : List Value) (hm0 : m ≠ 0) (ho : (Builtin.firstCells i.size sLen (.slice base sLen sCap)).run P w.drew = .ok olds.toArray w.drew)
    (hg : sCap < sLen + m) (h63 : sLen + m ≤ 1000000) :
    (Builtin.append_ ts ty (.slice base sLen sCap :: X :: rest).toArray).run P w = .ok (.slice (some ⟨w.heap.size, 0, none⟩) (sLen + m) (grownCap w (sLen + m) sCap e))
      (w.drew.alloc (.cells (olds.toArray ++ news.toArray ++ Builtin.zeroCells Z.cells (grownCap w (sLen + m) sCap e - (sLen + m))) e)) := by
  rcases s.how with ⟨t1, d1, h1, h2, h3, h4, h5⟩ | ⟨t1, k1, kx, h1, h2, rfl, hm, rfl⟩
  · exact append_grow w ts ty t t1 e d1 i Z ht0 h1 h2 h3 ht hi s.info base sLen sCap m X rest olds news (h4 w) (h5 _ rfl) ho hg h63 s.bytes
  · have := append_grow0 w ts ty t t1 e k1 i Z ht0 h1 h2 ht hi s.info base sLen sCap m kx rest olds (Nat.mul_ne_zero hm0 s.size) ho hg h63 s.bytes
    simpa using this
end Go.Ax
