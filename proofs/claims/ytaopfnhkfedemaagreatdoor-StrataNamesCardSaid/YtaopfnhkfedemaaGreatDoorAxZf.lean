/-
  AxZf: functions that have no body: bytes compared, looked for, counted; the whole again for a program that calls such.
-/
import Derived.Test.YtaopfnhkfedemaaGreatDoorAxZe
import Derived.Test.YtaopfnhkfedemaaGreatDoorAxQc
import Derived.Lib.Bytealg
import Derived.Lib.IndexEntry
import Derived.Laws.Externs
set_option linter.unusedVariables false
set_option linter.unusedSimpArgs false
namespace Go.Ax

inductive XK where
  | cmp | idx | cnt | same | sub (g : Nat)

noncomputable section
/-- the bytes of a text, or of a slice -/
def bytesV (h : Heap) (v : AV) : Option (List Nat) :=
  match v with
  | .str l => some l
  | .nilsl => some []
  | .esl _ => some []
  | .sl id off len _ z => (match Nat.beq z 1 with
    | true => (match h.row id with
      | some r => (match Nat.ble (off + len) r.n with | true => bytesA (r.read off len) | false => none)
      | none => none)
    | false => none)
  | _ => none
def cmpN (a : List Nat) : List Nat → Int :=
  List.rec (motive := fun _ => List Nat → Int) (fun b => match b with | [] => .ofNat 0 | _ :: _ => .negSucc 0)
    (fun x _ ih b => match b with
      | [] => .ofNat 1
      | y :: b => (match Nat.ble (x % 256 + 1) (y % 256) with | true => .negSucc 0 | false => (match Nat.ble (y % 256 + 1) (x % 256) with | true => .ofNat 1 | false => ih b))) a
def idxN (c : Nat) (l : List Nat) : Nat → Int :=
  List.rec (motive := fun _ => Nat → Int) (fun _ => .negSucc 0) (fun x _ ih i => match Nat.beq (x % 256) (c % 256) with | true => .ofNat i | false => ih (i + 1)) l
def cntN (c : Nat) (l : List Nat) : Nat := List.rec (motive := fun _ => Nat) 0 (fun x _ r => match Nat.beq (x % 256) (c % 256) with | true => r + 1 | false => r) l
/-- does a text begin so -/
def pre (m : List Nat) : List Nat → Bool :=
  List.rec (motive := fun _ => List Nat → Bool) (fun _ => true)
    (fun x _ ih l => match l with | [] => false | y :: l => (match Nat.beq (x % 256) (y % 256) with | true => ih l | false => false)) m
def findAt (l m : List Nat) : Nat → Int :=
  List.rec (motive := fun _ => Nat → Int) (fun _ => .negSucc 0) (fun x t ih i => match pre m (x :: t) with | true => .ofNat i | false => ih (i + 1)) l
/-- is a length at most what the variable holds -/
def fitsG (h : Heap) (g n : Nat) : Bool :=
  match glRow h g with
  | some r => (match Nat.ble 1 r.n with
    | true => (match r.get 0 with
      | .int k x => (match k with | .i64 => (match ilt x (.ofNat n) with | true => false | false => true) | _ => false)
      | .big x => Nat.ble n x
      | _ => false)
    | false => false)
  | none => false
def xrun (k : XK) (h : Heap) (args : List AV) : Option AV :=
  match k with
  | .cmp => (match args with
    | [a, b] => (match bytesV h a with
      | some l => (match bytesV h b with | some m => some (.int .i64 (cmpN l m)) | none => none)
      | none => none)
    | _ => none)
  | .idx => (match args with
    | [a, b] => (match b with
      | .int k n => (match k with
        | .u8 => (match bytesV h a with | some l => some (.int .i64 (idxN n.toNat l 0)) | none => none)
        | _ => none)
      | _ => none)
    | _ => none)
  | .cnt => (match args with
    | [a, b] => (match b with
      | .int k n => (match k with
        | .u8 => (match bytesV h a with | some l => some (.int .i64 (.ofNat (cntN n.toNat l))) | none => none)
        | _ => none)
      | _ => none)
    | _ => none)
  | .same => (match args with | [a] => some a | _ => none)
  | .sub g => (match args with
    | [a, b] => (match a with
      | .str l => (match b with
        | .str m => (match Nat.ble 2 m.length with
          | true => (match Nat.ble l.length 1000000 with
            | true => (match fitsG h g m.length with | true => some (.int .i64 (findAt l m 0)) | false => none)
            | false => none)
          | false => none)
        | _ => none)
      | _ => none)
    | _ => none)
def tabOf (xs : List (FuncId × XK)) : T (Option XK) := List.rec (motive := fun _ => T (Option XK)) .leaf (fun p _ t => t.set none p.1 (some p.2)) xs
def extT (xs : List (FuncId × XK)) : Ext := fun _ f _ args h =>
  match (tabOf xs).get none f with
  | some k => (match xrun k h args with | some v => .ok v h | none => .bad ["extern"])
  | none => .bad ["extern"]
end

def rowOf : XK → Array Value → Sem Value
  | .cmp => Extern.BytealgCompare.compare
  | .idx => Extern.BytealgIndexByte.indexByte
  | .cnt => Extern.BytealgCount.count
  | .same => Extern.AbiNoEscape.same
  | .sub _ => Extern.BytealgIndex.index
/-- what else an extern asks of the program -/
def XkOk (P : Program) : XK → Prop
  | .sub g => P.globals.findIdx? (·.name == "internal/bytealg.MaxLen") = some g
  | _ => True
def XsOk (P : Program) : List (FuncId × XK) → Prop
  | [] => True
  | (f, k) :: xs => (∃ fn, P.funcs[f]? = some fn ∧ (fn.name == "runtime.NumGoroutine") = false ∧ fn.body.isNone = true ∧ Extern.findNext fn = none ∧ Extern.find fn = some (rowOf k) ∧ XkOk P k) ∧ XsOk P xs

theorem tabOf_mem : ∀ {xs : List (FuncId × XK)} {f : FuncId} {k : XK}, (tabOf xs).get none f = some k → (f, k) ∈ xs
  | [], f, k, h => by
    have : T.get none (.leaf : T (Option XK)) f = some k := h
    rw [get_leaf] at this; cases this
  | p :: xs, f, k, h => by
    have h' : T.get none ((tabOf xs).set none p.1 (some p.2)) f = some k := h
    rw [get_set] at h'
    by_cases e : f = p.1
    · rw [if_pos e] at h'
      cases h'
      rw [e]; exact List.mem_cons_self
    · rw [if_neg e] at h'
      exact List.mem_cons_of_mem _ (tabOf_mem h')
theorem XsOk.at {P : Program} : ∀ {xs : List (FuncId × XK)}, XsOk P xs → ∀ {f k}, (f, k) ∈ xs → ∃ fn, P.funcs[f]? = some fn ∧ (fn.name == "runtime.NumGoroutine") = false ∧ fn.body.isNone = true ∧ Extern.findNext fn = none ∧ Extern.find fn = some (rowOf k) ∧ XkOk P k
  | [], _, f, k, h => by cases h
  | p :: xs, hx, f, k, h => by
    rcases List.mem_cons.1 h with e | h
    · subst e; exact hx.1
    · exact XsOk.at hx.2 h

theorem loadBytes_ok {P : Program} {w : World} {B : Nat} : ∀ (ns : List Int) (off : Nat) (acc : ByteArray), (∀ (j : Nat) v, (ns.map (Value.int .u8))[j]? = some v → w.cell? ⟨B, off + j, none⟩ = some v) →
    (Extern.Bytes.loadBytes ⟨B, off, none⟩ ns.length acc).run P w = .ok ⟨acc.data ++ ((ns.map Int.toNat).map UInt8.ofNat).toArray⟩ w
  | [], off, acc, h => by simp [Extern.Bytes.loadBytes]
  | n :: ns, off, acc, h => by
    have h0 : w.cell? ⟨B, off, none⟩ = some (.int .u8 n) := by simpa using h 0 (.int .u8 n) rfl
    have ih := loadBytes_ok (P := P) ns (off + 1) (acc.push n.toNat.toUInt8) (fun j v hv => by
      have := h (j + 1) v (by simpa using hv)
      rw [show off + 1 + j = off + (j + 1) by omega]; exact this)
    simp only [List.length_cons, Extern.Bytes.loadBytes, Sem.run_bind, run_load, h0, Result.andThen_ok, add_off]
    rw [ih]
    simp [ByteArray.push, Nat.toUInt8]

theorem bytesOf_ok {P : Program} {ρ : Map} {h : Heap} {w : World} (hr : HR ρ h w) {v : AV} {X : Value} {l : List Nat} (e : bytesV h v = some l) (hx : VR ρ v X) : (Extern.Bytes.bytesOf X).run P w = .ok (bs l) w := by
  unfold bytesV at e
  split at e
  · cases e; simp only [VR] at hx; subst hx; simp [Extern.Bytes.bytesOf]
  · cases e; simp only [VR] at hx; subst hx; simp [Extern.Bytes.bytesOf]; rfl
  · cases e
    simp only [VR] at hx
    obtain ⟨B, N, o, C, hp, rfl⟩ := hx
    simp [Extern.Bytes.bytesOf, Extern.Bytes.loadBytes]; rfl
  · rename_i id off len cap z
    split at e
    · split at e
      · rename_i r hrow
        split at e
        · rename_i hb
          simp only [VR] at hx
          obtain ⟨B, N, C, hp, rfl, _⟩ := hx
          have ro := hr.rowAt hrow hp
          obtain ⟨L, l1, l2, l3⟩ := RowOk.reads ro len off (bleT hb)
          obtain ⟨ns, n1, n2⟩ := bytesA_ok _ L l e l1
          have hlen : ns.length = len := by rw [← l2, n1]; simp
          have := loadBytes_ok (P := P) (w := w) (B := B) ns off ByteArray.empty (fun j v hv => l3 j v (by rw [n1]; exact hv))
          rw [hlen, n2] at this
          simp only [Extern.Bytes.bytesOf]
          rw [this]
          have he0 : ByteArray.empty.data = #[] := rfl
          rw [he0]
          simp [bs]
        · cases e
      · cases e
    · cases e
  · cases e

theorem cmpN_eq : ∀ (a b : List Nat), cmpN a b = Lib.compareBytes (a.map UInt8.ofNat) (b.map UInt8.ofNat)
  | [], [] => rfl
  | [], _ :: _ => rfl
  | _ :: _, [] => rfl
  | x :: a, y :: b => by
    have e : cmpN (x :: a) (y :: b) = (match Nat.ble (x % 256 + 1) (y % 256) with | true => .negSucc 0 | false => (match Nat.ble (y % 256 + 1) (x % 256) with | true => .ofNat 1 | false => cmpN a b)) := rfl
    rw [e, cmpN_eq a b]
    simp only [List.map_cons, Lib.compareBytes]
    have hxy : (UInt8.ofNat x < UInt8.ofNat y) ↔ x % 256 < y % 256 := by rw [UInt8.lt_iff_toNat_lt]; simp
    have hyx : (UInt8.ofNat y < UInt8.ofNat x) ↔ y % 256 < x % 256 := by rw [UInt8.lt_iff_toNat_lt]; simp
    by_cases h1 : x % 256 < y % 256
    · rw [if_pos (hxy.2 h1), (ble_iff _ _).2 (show x % 256 + 1 ≤ y % 256 by omega)]; rfl
    · rw [if_neg (fun q => h1 (hxy.1 q)), ble_not (show ¬ x % 256 + 1 ≤ y % 256 by omega)]
      simp only []
      by_cases h2 : y % 256 < x % 256
      · rw [if_pos (hyx.2 h2), (ble_iff _ _).2 (show y % 256 + 1 ≤ x % 256 by omega)]; rfl
      · rw [if_neg (fun q => h2 (hyx.1 q)), ble_not (show ¬ y % 256 + 1 ≤ x % 256 by omega)]

theorem beq_u8 (x c : Nat) : Nat.beq (x % 256) (c % 256) = (UInt8.ofNat x == UInt8.ofNat c) := by
  by_cases h : x % 256 = c % 256
  · have : UInt8.ofNat x = UInt8.ofNat c := by apply UInt8.toNat_inj.1; simpa using h
    rw [this, h]; simp
  · have : UInt8.ofNat x ≠ UInt8.ofNat c := fun q => h (by have := congrArg UInt8.toNat q; simpa using this)
    rw [beqF h]; simp [this]
theorem idxN_eq (c : Nat) : ∀ (l : List Nat) (i : Nat), idxN c l i = (if Lib.indexByte (l.map UInt8.ofNat) (UInt8.ofNat c) = -1 then -1 else Lib.indexByte (l.map UInt8.ofNat) (UInt8.ofNat c) + (i : Int))
  | [], i => rfl
  | x :: l, i => by
    have e : idxN c (x :: l) i = (match Nat.beq (x % 256) (c % 256) with | true => .ofNat i | false => idxN c l (i + 1)) := rfl
    rw [e, idxN_eq c l (i + 1), beq_u8]
    have hge := Lib.indexByte_ge (l.map UInt8.ofNat) (UInt8.ofNat c)
    simp only [List.map_cons, Lib.indexByte]
    cases hb : (UInt8.ofNat x == UInt8.ofNat c) with
    | true => simp
    | false =>
      simp only [Bool.false_eq_true, if_false]
      by_cases h1 : Lib.indexByte (l.map UInt8.ofNat) (UInt8.ofNat c) = -1
      · simp [h1]
      · have h2 : (Lib.indexByte (l.map UInt8.ofNat) (UInt8.ofNat c) == -1) = false := by simpa using h1
        rw [if_neg h1, h2]
        simp only [Bool.false_eq_true, if_false]
        rw [if_neg (by omega)]
        push_cast
        omega
theorem cntN_eq (c : Nat) : ∀ (l : List Nat), cntN c l = Lib.countByte (l.map UInt8.ofNat) (UInt8.ofNat c)
  | [] => rfl
  | x :: l => by
    have e : cntN c (x :: l) = (match Nat.beq (x % 256) (c % 256) with | true => cntN c l + 1 | false => cntN c l) := rfl
    rw [e, cntN_eq c l, beq_u8]
    unfold Lib.countByte
    rw [List.map_cons, List.count_cons]
    cases hb : (UInt8.ofNat x == UInt8.ofNat c) <;> simp

theorem pre_eq : ∀ (m l : List Nat), pre m l = (m.map UInt8.ofNat).isPrefixOf (l.map UInt8.ofNat)
  | [], l => by cases l <;> rfl
  | x :: m, [] => rfl
  | x :: m, y :: l => by
    have e : pre (x :: m) (y :: l) = (match Nat.beq (x % 256) (y % 256) with | true => pre m l | false => false) := rfl
    rw [e, beq_u8, pre_eq m l]
    simp only [List.map_cons, List.isPrefixOf]
    cases (UInt8.ofNat x == UInt8.ofNat y) <;> simp
theorem findAt_eq (m : List Nat) (hm : m ≠ []) : ∀ (l : List Nat) (i : Nat), findAt l m i = (if Lib.index (l.map UInt8.ofNat) (m.map UInt8.ofNat) = -1 then -1 else Lib.index (l.map UInt8.ofNat) (m.map UInt8.ofNat) + (i : Int))
  | [], i => by
    have : Lib.index ([] : List UInt8) (m.map UInt8.ofNat) = -1 := by
      unfold Lib.index
      cases m with
      | nil => exact absurd rfl hm
      | cons x m => simp
    simp only [List.map_nil, this, if_true]
    rfl
  | x :: l, i => by
    have e : findAt (x :: l) m i = (match pre m (x :: l) with | true => .ofNat i | false => findAt l m (i + 1)) := rfl
    have hge := Lib.index_ge (l.map UInt8.ofNat) (m.map UInt8.ofNat)
    rw [e, findAt_eq m hm l (i + 1), pre_eq]
    simp only [List.map_cons, Lib.index]
    cases hb : (m.map UInt8.ofNat).isPrefixOf (UInt8.ofNat x :: l.map UInt8.ofNat) with
    | true => simp
    | false =>
      simp only [Bool.false_eq_true, if_false]
      by_cases h1 : Lib.index (l.map UInt8.ofNat) (m.map UInt8.ofNat) = -1
      · simp [h1]
      · have h2 : (Lib.index (l.map UInt8.ofNat) (m.map UInt8.ofNat) == -1) = false := by simpa using h1
        rw [if_neg h1, h2]
        simp only [Bool.false_eq_true, if_false]
        rw [if_neg (by omega)]
        push_cast
        omega
theorem fitsG_ok {ρ : Map} {h : Heap} {w : World} (hr : HR ρ h w) {g n : Nat} (e : fitsG h g n = true) : ∃ m : Int, w.cell? ⟨g, 0, none⟩ = some (.int .i64 m) ∧ (n : Int) ≤ m := by
  unfold fitsG at e
  split at e
  · rename_i r hg
    split at e
    · rename_i hn
      obtain ⟨v, v1, v2⟩ := hr.glAt hg 0 (by have := bleT hn; omega)
      split at e
      · rename_i k x hx
        split at e
        · split at e
          · cases e
          · rename_i hl
            rw [hx] at v2
            simp only [VR] at v2
            subst v2
            rw [ilt_eq] at hl
            exact ⟨x, v1, by simpa using hl⟩
        · cases e
      · rename_i x hx
        rw [hx] at v2
        simp only [VR] at v2
        obtain ⟨m, m1, rfl⟩ := v2
        have := bleT e
        exact ⟨m, v1, by omega⟩
      · cases e
    · cases e
  · cases e

theorem xrun_ok {P : Program} {ρ : Map} {h : Heap} {w : World} (hr : HR ρ h w) {k : XK} (hxk : XkOk P k) {args : List AV} {A : List Value} {v : AV} (e : xrun k h args = some v) (hA : VRs ρ args A) :
    ∃ z, (rowOf k A.toArray).run P w = .ok z w ∧ VR ρ v z := by
  unfold xrun at e
  split at e
  · split at e
    · rename_i a b
      simp only [VRs] at hA
      obtain ⟨X, _, hx, ⟨Y, _, hy, rfl, rfl⟩, rfl⟩ := hA
      split at e
      · rename_i l hl
        split at e
        · rename_i m hm
          cases e
          refine ⟨.int .i64 (cmpN l m), ?_, by simp only [VR]⟩
          show (do pure (goInt (Extern.BytealgCompare.cmp (← Extern.Bytes.bytesOf X) (← Extern.Bytes.bytesOf Y))) : Sem Value).run P w = _
          simp only [Sem.run_bind, bytesOf_ok hr hl hx, bytesOf_ok hr hm hy, Result.andThen_ok, Sem.run_pure, Lib.cmp_eq, cmpN_eq]
          simp [bs, goInt]
        · cases e
      · cases e
    · cases e
  · split at e
    · rename_i a b
      split at e
      · rename_i kk n
        split at e
        · split at e
          · rename_i l hl
            cases e
            simp only [VRs] at hA
            obtain ⟨X, _, hx, ⟨Y, _, hy, rfl, rfl⟩, rfl⟩ := hA
            simp only [VR] at hy; subst hy
            refine ⟨.int .i64 (idxN n.toNat l 0), ?_, by simp only [VR]⟩
            show (do
              let b ← Extern.Bytes.bytesOf X
              let c' ← Extern.Bytes.asByte (.int .u8 n)
              match (List.range b.size).find? fun i => b[i]! == c' with
              | some i => pure (goInt i)
              | none => pure (goInt (-1)) : Sem Value).run P w = _
            simp only [Sem.run_bind, bytesOf_ok hr hl hx, Result.andThen_ok, Extern.Bytes.asByte, Sem.run_pure]
            have h1 : firstIdx (bs l) n.toNat.toUInt8 = idxN n.toNat l 0 := by
              rw [Lib.firstIdx_eq, idxN_eq]
              have hb : (bs l).data.toList = l.map UInt8.ofNat := by simp [bs]
              rw [hb]
              have hc : n.toNat.toUInt8 = UInt8.ofNat n.toNat := rfl
              rw [hc]
              split
              · rename_i h2; rw [h2]
              · simp
            rw [← h1]
            unfold firstIdx
            generalize (List.range (bs l).size).find? (fun i => (bs l)[i]! == n.toNat.toUInt8) = q
            cases q <;> rfl
          · cases e
        · cases e
      · cases e
    · cases e
  · split at e
    · rename_i a b
      split at e
      · rename_i kk n
        split at e
        · split at e
          · rename_i l hl
            cases e
            simp only [VRs] at hA
            obtain ⟨X, _, hx, ⟨Y, _, hy, rfl, rfl⟩, rfl⟩ := hA
            simp only [VR] at hy; subst hy
            refine ⟨.int .i64 (.ofNat (cntN n.toNat l)), ?_, by simp only [VR]⟩
            have h0 := Lib.run_countString (P := P) (bs l) n w
            have hb : (bs l).data.toList = l.map UInt8.ofNat := by simp [bs]
            rw [hb, show n.toNat.toUInt8 = UInt8.ofNat n.toNat from rfl, ← cntN_eq] at h0
            rw [show (Value.int .i64 (.ofNat (cntN n.toNat l))) = .int .i64 (cntN n.toNat l : Nat) from rfl, ← h0]
            show (do
              let b ← Extern.Bytes.bytesOf X
              let c ← Extern.Bytes.asByte (.int .u8 n)
              pure (goInt (b.foldl (fun n x => if x == c then n + 1 else n) (0 : Nat))) : Sem Value).run P w = (do
              let b ← Extern.Bytes.bytesOf (.string (bs l))
              let c ← Extern.Bytes.asByte (.int .u8 n)
              pure (goInt (b.foldl (fun n x => if x == c then n + 1 else n) (0 : Nat))) : Sem Value).run P w
            have hstr : (Extern.Bytes.bytesOf (.string (bs l))).run P w = .ok (bs l) w := by simp [Extern.Bytes.bytesOf]
            simp only [Sem.run_bind, bytesOf_ok hr hl hx, hstr, Result.andThen_ok]
          · cases e
        · cases e
      · cases e
    · cases e
  · split at e
    · rename_i a
      cases e
      simp only [VRs] at hA
      obtain ⟨X, _, hx, rfl, rfl⟩ := hA
      exact ⟨X, rfl, hx⟩
    · cases e
  · rename_i g
    split at e
    · rename_i a b
      split at e
      · rename_i l
        split at e
        · rename_i m
          split at e
          · rename_i h2
            split at e
            · rename_i hl
              split at e
              · rename_i hf
                cases e
                simp only [VRs] at hA
                obtain ⟨X, _, hx, ⟨Y, _, hy, rfl, rfl⟩, rfl⟩ := hA
                simp only [VR] at hx hy
                subst hx; subst hy
                obtain ⟨mx, c1, c2⟩ := fitsG_ok hr hf
                have h2 := bleT h2
                have hl := bleT hl
                refine ⟨.int .i64 (findAt l m 0), ?_, by simp only [VR]⟩
                have h0 := Lib.run_indexString (P := P) (bs l) (bs m) w g mx hxk c1 (by rw [bs_size]; exact h2) (by rw [bs_size]; exact c2) (by rw [bs_size]; omega)
                have hm : m ≠ [] := fun q => by rw [q] at h2; simp at h2
                have e1 : findAt l m 0 = Lib.index (bs l).data.toList (bs m).data.toList := by
                  rw [findAt_eq m hm l 0]
                  have e2 : ∀ q : List Nat, (bs q).data.toList = q.map UInt8.ofNat := fun q => by simp [bs]
                  rw [e2, e2]
                  split
                  · rename_i h9; rw [h9]
                  · simp
                rw [e1]
                exact h0
              · cases e
            · cases e
          · cases e
        · cases e
      · cases e
    · cases e


theorem extT_ok {P : Program} {g0 : Heap} {kn : T (Option (List (List AV × AV)))} {xs : List (FuncId × XK)} (hxs : XsOk P xs) : ExtOk (ctxG P g0 kn) (extT xs) := by
  intro app ha f fn args h v h' he hf hb ρ w A hr wf fr hA
  unfold extT at he
  split at he
  · rename_i k hk
    split at he
    · rename_i u hu
      cases he
      obtain ⟨fn', q1, q2, q3, q4, q5, q6⟩ := hxs.at (tabOf_mem hk)
      obtain ⟨z, z1, z2⟩ := xrun_ok (P := P) hr q6 hu hA
      refine ⟨.value z, w, ?_, ρ, Good.refl hr wf, z2⟩
      have := run_callFunc_extern q1 q2 q3 q4 q5 A.toArray w
      show (callFunc f A.toArray).run P w = _
      rw [this, z1]
      rfl
    · cases he
  · cases he

/-- THE SAME, BY THE EVALUATOR WITH CLOSED BRANCHES. -/
theorem closed_callsQ {P : Program} (hn : namesOk P = true) (hm : P.follows .mixedOrders = true) {xs : List (FuncId × XK)} (hxs : XsOk P xs) {f : FuncId} {fn : Func} (hf : P.funcs[f]? = some fn) (hb : fn.body.isSome = true) {lim n : Nat}
    (hrun : (appQ (ctxOf P) drawQ lim (extT xs) n (.f f) [] h0).isTrue = true) (w : World) : Calls P f #[] w fun e w' => e = .returned (.bool true) ∧ Left0 w w' := by
  rw [appQ_eq, drawQ_eq] at hrun
  exact closed_calls hn hm (extT_ok hxs) hf hb hrun w


/-- BY A RUN FROM THE VARIABLES ALONE: each of a list of calls of one function is known. -/
noncomputable def allRun (c : Ctx) (lim : Nat) (ext : Ext) (n : Nat) (f : FuncId) (l : List (List AV × AV)) : Bool :=
  List.rec (motive := fun _ => Bool) true (fun p _ r => match ansIs (appQ c drawQ lim ext n (.f f) p.1 c.g0) p.2 with | true => (match clAll p.1 with | true => r | false => false) | false => false) l
theorem allRun_ok {c : Ctx} (k : CtxOk c) (kn : KnOk c) (hm : c.P.follows .mixedOrders = true) {ext : Ext} (hx : ExtOk c ext) (hb : BaseOk c.g0) {f : FuncId} {lim n : Nat} :
    ∀ {l : List (List AV × AV)}, allRun c lim ext n f l = true → ∀ p ∈ l, clAll p.1 = true ∧ KnownOk c f p.1 p.2
  | [], _, p, hp => by cases hp
  | q :: l, h, p, hp => by
    have h' : (match ansIs (appQ c drawQ lim ext n (.f f) q.1 c.g0) q.2 with | true => (match clAll q.1 with | true => allRun c lim ext n f l | false => false) | false => false) = true := h
    split at h'
    · rename_i h1
      split at h'
      · rename_i h2
        rcases List.mem_cons.1 hp with rfl | hp
        · rw [appQ_eq, drawQ_eq] at h1
          exact ⟨h2, base_run k kn hm hx hb h1⟩
        · exact allRun_ok k kn hm hx hb h' p hp
      · cases h'
    · cases h'
/-- a table of known calls, function for function -/
theorem kn_table {P : Program} {g0 : Heap} {xs : List (FuncId × List (List AV × AV))} (hc : ∀ i r, g0.get i = .gl r → ∀ j, j < r.n → clo (r.get j) = true)
    (h : ∀ q ∈ xs, ∀ p ∈ q.2, clAll p.1 = true ∧ KnownOk (ctxG P g0 .leaf) q.1 p.1 p.2) : KnOk (ctxG P g0 (knT xs)) :=
  ⟨hc, fun f l args v e m => (h _ (knT_mem e) _ m).1, fun f l args v e m => (h _ (knT_mem e) _ m).2⟩

theorem allApp {Q : List AV × AV → Prop} {l m : List (List AV × AV)} (a : ∀ p, p ∈ l → Q p) (b : ∀ p, p ∈ m → Q p) : ∀ p, p ∈ l ++ m → Q p := fun p hp => (List.mem_append.1 hp).elim (a p) (b p)

end Go.Ax
