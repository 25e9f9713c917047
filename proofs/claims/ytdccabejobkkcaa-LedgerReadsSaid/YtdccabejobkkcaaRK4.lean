/- Parts of the proof in YtdccabejobkkcaaRFin: PxTz, PxVa, PxVb, PxVc, PxVd, PxVe, PxTx, PxVf, PxVg, PxVh, PxVi, PxVj, PxVm, PxVk, PxVq, PxVx, PxVv, PxVw, PxVy, PxVp, PxVr, PxVz, PxXa, PxVs, PxXb, PxVt, PxXc, PxXd, PxXe, PxXf, PxVn, PxVu, PxXg, PxXh, PxXi, PxVl. -/
import Derived.Test.YtdccabejobkkcaaRK3
import Derived.Sort.Grow
import Derived.Sort.EncStr
import Derived.Lib.SlicesCompact
import Derived.Lib.Builder
import Derived.Lib.Bytealg
import Derived.Lib.IndexEntry
import Derived.Laws.Externs
set_option linter.unusedVariables false
set_option linter.unusedSimpArgs false
section
namespace Go.Px
/-! ## numbers renamed -/
def renF (f : Nat → Nat) (g : Fn) : Fn := match g with | .yield l => .yield (f l) | g => g
mutual
def ren (f : Nat → Nat) : AV → AV
 | .bad => .bad
 | .bool b => .bool b
 | .int k n => .int k n
 | .str l => .str l
 | .nilptr => .nilptr
 | .ptr i o => .ptr (f i) o
 | .nilsl => .nilsl
 | .sl i o l c z => .sl (f i) o l c z
 | .esl i => .esl (f i)
 | .nilmp => .nilmp
 | .mp i => .mp (f i)
 | .nilfn => .nilfn
 | .fn g a b => .fn (renF f g) (rens f a) (rens f b)
 | .nilifc => .nilifc
 | .ifc t a => .ifc t (ren f a)
 | .agg l => .agg (rens f l)
 | .tup l => .tup (rens f l)
 | .gptr g o => .gptr g o
 | .anyb => .anyb
 | .big n => .big n
 | .low n => .low n
 | .anyi => .anyi
 | .rsl n z l => .rsl n z l
 | .rptr l => .rptr l
 | .csl => .csl
 | .own i n z => .own (f i) n z
 | .optr i n o => .optr (f i) n o
def rens (f : Nat → Nat) : List AV → List AV
 | [] => []
 | a :: l => ren f a :: rens f l
end
theorem rens_length (f : Nat → Nat) : ∀ l : List AV, (rens f l).length = l.length
 | [] => rfl
 | a :: l => by simp only [rens, List.length_cons, rens_length f l]
theorem rens_get (f : Nat → Nat) : ∀ (l : List AV) (j : Nat), (rens f l).getD j .bad = ren f (l.getD j .bad)
 | [], j => by simp [rens, ren]
 | a :: l, 0 => rfl
 | a :: l, j + 1 => by
  have := rens_get f l j
  simpa [rens] using this
def pull (ρ : Map) (f : Nat → Nat) : Map := ⟨fun j => ρ (f j), ρ.F, fun j n => ρ.V (f j) n⟩
mutual
theorem vr_ren {ρ : Map} {f : Nat → Nat} : ∀ (a : AV) (v : Value), VR ρ (ren f a) v ↔ VR (pull ρ f) a v
 | .bad, _ => by simp only [ren, VR]
 | .bool b, _ => by simp only [ren, VR]
 | .int _ _, _ => by simp only [ren, VR]
 | .str l, _ => by simp only [ren, VR]
 | .nilptr, _ => by simp only [ren, VR]
 | .ptr i o, _ => by simp only [ren, VR]; exact Iff.rfl
 | .nilsl, _ => by simp only [ren, VR]
 | .sl i o l c z, _ => by simp only [ren, VR]; exact Iff.rfl
 | .esl i, _ => by simp only [ren, VR]; exact Iff.rfl
 | .nilmp, _ => by simp only [ren, VR]
 | .mp i, _ => by simp only [ren, VR]; exact Iff.rfl
 | .nilfn, _ => by simp only [ren, VR]
 | .fn g a b, v => by
  have ha := fun L => vrs_ren (ρ := ρ) (f := f) a L
  have hb := fun L => vrs_ren (ρ := ρ) (f := f) b L
  have hg : ∀ f', FR ρ (renF f g) f' ↔ FR (pull ρ f) g f' := fun f' => by
   cases g <;> simp only [renF, FR] <;> exact Iff.rfl
  simp only [ren, VR, ha, hb, hg]
 | .nilifc, _ => by simp only [ren, VR]
 | .ifc t a, v => by
  have ha := fun x => vr_ren (ρ := ρ) (f := f) a x
  simp only [ren, VR, ha]
 | .agg l, v => by
  have ha := fun L => vrs_ren (ρ := ρ) (f := f) l L
  simp only [ren, VR, ha]
 | .tup l, v => by
  have ha := fun L => vrs_ren (ρ := ρ) (f := f) l L
  simp only [ren, VR, ha]
 | .gptr g o, _ => by simp only [ren, VR]
 | .anyb, _ => by simp only [ren, VR]
 | .big n, _ => by simp only [ren, VR]
 | .low n, _ => by simp only [ren, VR]
 | .anyi, _ => by simp only [ren, VR]
 | .rsl n z l, _ => by simp only [ren, VR]; exact Iff.rfl
 | .rptr l, _ => by simp only [ren, VR]; exact Iff.rfl
 | .csl, _ => by simp only [ren, VR]
 | .own i m z, _ => by simp only [ren, VR]; exact Iff.rfl
 | .optr i m o, _ => by simp only [ren, VR]; exact Iff.rfl
theorem vrs_ren {ρ : Map} {f : Nat → Nat} : ∀ (l : List AV) (L : List Value), VRs ρ (rens f l) L ↔ VRs (pull ρ f) l L
 | [], _ => by simp only [rens, VRs]
 | a :: l, L => by
  have ha := fun x => vr_ren (ρ := ρ) (f := f) a x
  have hl := fun M => vrs_ren (ρ := ρ) (f := f) l M
  simp only [rens, VRs, ha, hl]
end
/-! ## others' numbers: those handed over in their numbers, those of their own -/
def sg (is : List Nat) (b j : Nat) : Nat := match is with
 | [] => b + j
 | i :: r => (match j with | 0 => i | j + 1 => sg r b j)
def tau : List Nat → Nat → Nat → Option Nat
 | [], b, i => if b ≤ i then some (i - b) else none
 | x :: r, b, i => if i = x then some 0 else (tau r b i).map (· + 1)
def apart (b : Nat) : List Nat → Bool
 | [] => true
 | i :: r => (match Nat.ble (i + 1) b with | true => (match inL r i with | false => apart b r | true => false) | false => false)
theorem inL_of {xs : List Nat} {i : Nat} (h : i ∈ xs) : inL xs i = true := by
 induction xs with
 | nil => cases h
 | cons x r ih =>
  unfold inL
  rcases List.mem_cons.1 h with rfl | h
  ·simp only [Nat.beq_refl]
  ·split
   ·rfl
   ·exact ih h
theorem apart_cons {b i : Nat} {r : List Nat} (h : apart b (i :: r) = true) : i < b ∧ i ∉ r ∧ apart b r = true := by
 simp only [apart] at h
 split at h
 ·rename_i h1
  split at h
  ·rename_i h2
   refine ⟨bleT h1, ?_, h⟩
   intro q
   rw [inL_of q] at h2
   cases h2
  ·cases h
 ·cases h
theorem sg_in : ∀ (is : List Nat) (b j : Nat), sg is b j ∈ is ∨ b ≤ sg is b j
 | [], b, j => .inr (by simp only [sg]; omega)
 | i :: r, b, 0 => .inl (by simp only [sg]; exact List.mem_cons_self)
 | i :: r, b, j + 1 => by
  simp only [sg]
  rcases sg_in r b j with h | h
  ·exact .inl (List.mem_cons_of_mem _ h)
  ·exact .inr h
theorem tau_sg : ∀ {is : List Nat} {b : Nat} (j : Nat), apart b is = true → tau is b (sg is b j) = some j
 | [], b, j, _ => by
  have e : sg [] b j = b + j := rfl
  rw [e]
  simp only [tau]
  rw [if_pos (by omega)]; congr 1; omega
 | i :: r, b, 0, _ => by
  have e : sg (i :: r) b 0 = i := rfl
  rw [e]
  simp only [tau, if_pos]
 | i :: r, b, j + 1, h => by
  obtain ⟨h1, h2, h3⟩ := apart_cons h
  have e : sg (i :: r) b (j + 1) = sg r b j := rfl
  rw [e]
  simp only [tau]
  rw [if_neg (fun e => by rcases sg_in r b j with q | q; exact h2 (e ▸ q); omega), tau_sg j h3]; rfl
theorem sg_tau : ∀ {is : List Nat} {b i j : Nat}, tau is b i = some j → sg is b j = i
 | [], b, i, j, h => by
  simp only [tau] at h
  split at h
  ·cases h; simp only [sg]; omega
  ·cases h
 | x :: r, b, i, j, h => by
  simp only [tau] at h
  split at h
  ·cases h; rename_i e; simp only [sg]; exact e.symm
  ·cases j with
   | zero => cases q : tau r b i <;> rw [q] at h <;> cases h
   | succ j =>
    simp only [sg]
    refine sg_tau (is := r) (b := b) ?_
    cases q : tau r b i with
    | none => rw [q] at h; cases h
    | some k => rw [q] at h; cases h; rfl
theorem sg_lt : ∀ {is : List Nat} {b j : Nat}, apart b is = true → j < is.length → sg is b j < b
 | i :: r, b, 0, h, _ => by simp only [sg]; exact (apart_cons h).1
 | i :: r, b, j + 1, h, hj => by simp only [sg]; exact sg_lt (apart_cons h).2.2 (by simpa using hj)
theorem sg_ge : ∀ {is : List Nat} {b j : Nat}, is.length ≤ j → sg is b j = b + (j - is.length)
 | [], b, j, _ => by simp only [sg, List.length_nil]; omega
 | i :: r, b, 0, h => by simp at h
 | i :: r, b, j + 1, h => by
  simp only [sg]
  rw [sg_ge (by simpa using h)]
  simp only [List.length_cons]; omega
theorem sg_inj {is : List Nat} {b i j : Nat} (h : apart b is = true) (e : sg is b i = sg is b j) : i = j := by
 have := tau_sg i h
 rw [e, tau_sg j h] at this
 cases this; rfl
theorem tau_lt {is : List Nat} {b i j : Nat} (h : tau is b i = some j) (hi : i < b) : j < is.length := by
 have := sg_tau h
 rcases Nat.lt_or_ge j is.length with q | q
 ·exact q
 ·rw [sg_ge q] at this; omega
noncomputable def mixN : Nat → Heap → List Nat → List AB → Heap
 | n, h, i :: is, b :: bs => mixN n (h.put i b) is bs
 | n, h, [], b :: bs => mixN (n + 1) (newAt n h b) [] bs
 | _, h, _, [] => h
theorem mix_get_new : ∀ (bs : List AB) (b : Nat) (h : Heap) (i : Nat), (mixN b h [] bs).get i = (match tau [] b i with | some j => (bs[j]?).getD (h.get i) | none => h.get i)
 | [], b, h, i => by
  simp only [mixN]
  split <;> simp
 | x :: bs, b, h, i => by
  simp only [mixN]
  rw [mix_get_new bs (b + 1) (newAt b h x) i]
  have hg : (newAt b h x).get i = if i = b then x else h.get i := Px.get_set _ _ _ _ _
  simp only [tau]
  by_cases h1 : i = b
  ·subst h1
   rw [if_neg (by omega), if_pos (Nat.le_refl _)]
   simp only [hg, if_pos, Nat.sub_self]; rfl
  ·by_cases h2 : b ≤ i
   ·rw [if_pos (by omega), if_pos h2]
    simp only [hg, if_neg h1]
    rw [show i - b = (i - (b + 1)) + 1 by omega]; rfl
   ·rw [if_neg (by omega), if_neg h2]
    simp only [hg, if_neg h1]
theorem mix_get : ∀ (is : List Nat) (bs : List AB) (b : Nat) (h : Heap) (i : Nat), is.length ≤ bs.length → apart b is = true → (mixN b h is bs).get i = (match tau is b i with | some j => (bs[j]?).getD (h.get i) | none => h.get i)
 | [], bs, b, h, i, _, _ => mix_get_new bs b h i
 | x :: is, [], b, h, i, hl, _ => by simp at hl
 | x :: is, y :: bs, b, h, i, hl, ha => by
  obtain ⟨h1, h2, h3⟩ := apart_cons ha
  simp only [mixN]
  rw [mix_get is bs b (h.put x y) i (by simpa using hl) h3]
  simp only [tau, Heap.get_put]
  by_cases e : i = x
  ·subst e
   have : tau is b i = none := by
    cases q : tau is b i with
    | none => rfl
    | some j =>
     have := sg_tau q
     rcases sg_in is b j with r | r
     ·exact absurd (this ▸ r) h2
     ·omega
   rw [this]
   simp
  ·simp only [if_neg e]
   cases q : tau is b i with
   | none => rfl
   | some j => rfl
theorem mix_nxt : ∀ (is : List Nat) (bs : List AB) (b : Nat) (h : Heap), is.length ≤ bs.length → h.nxt = b → (mixN b h is bs).nxt = b + (bs.length - is.length)
 | [], [], b, h, _, e => by simpa [mixN] using e
 | [], x :: bs, b, h, _, e => by
  simp only [mixN]
  rw [mix_nxt [] bs (b + 1) (newAt b h x) (by simp) rfl]
  simp only [List.length_nil, List.length_cons]; omega
 | x :: is, [], b, h, hl, _ => by simp at hl
 | x :: is, y :: bs, b, h, hl, e => by
  simp only [mixN]
  rw [mix_nxt is bs b (h.put x y) (by simpa using hl) e]
  simp only [List.length_cons]; omega
theorem mix_tip : ∀ (is : List Nat) (bs : List AB) (b : Nat) (h : Heap) (q : Nat), (mixN b h is bs).tip q = h.tip q
 | [], [], b, h, q => rfl
 | [], x :: bs, b, h, q => by simp only [mixN]; rw [mix_tip [] bs]; rfl
 | x :: is, [], b, h, q => rfl
 | x :: is, y :: bs, b, h, q => by simp only [mixN]; rw [mix_tip is bs]; rfl
/-! ## what is handed over -/
inductive MB where
 | no
 | row (t : TypeId) (cs : List AV)
 | arr (t : TypeId) (z n : Nat) (l : List AV)
 | map (es : List (AV × AV × Nat)) (c : Nat)
def MB.ab : MB → AB
 | .no => .none
 | .row t cs => .row ⟨t, cs.length, .leaf, cs, none⟩
 | .arr t z n l => .arr t z n l
 | .map es c => .map es c
def MB.ren (f : Nat → Nat) : MB → MB
 | .no => .no
 | .row t cs => .row t (rens f cs)
 | .arr t z n l => .arr t z n l
 | .map es c => .map es c
def MB.low (k : Nat) : MB → Bool
 | .row _ cs => lowsB k cs
 | .map es _ => datEs es
 | _ => true
def lowM (k : Nat) : List MB → Bool
 | [] => true
 | b :: r => (match b.low k with | true => lowM k r | false => false)
theorem lowM_at {k : Nat} : ∀ {bs : List MB} {j : Nat} {b : MB}, lowM k bs = true → bs[j]? = some b → b.low k = true
 | [], j, b, _, h => by simp at h
 | x :: r, j, b, h, e => by
  simp only [lowM] at h
  split at h
  ·rename_i hx
   cases j with
   | zero => simp at e; subst e; exact hx
   | succ j => exact lowM_at (bs := r) h (by simpa using e)
  ·cases h
def MbAt (h : Heap) (i : Nat) (b : MB) : Prop :=
 match b with
 | .no => True
 | .row t cs => ∃ r, h.get i = .row r ∧ r.t = t ∧ r.n = cs.length ∧ r.root = none ∧ r.read 0 r.n = cs
 | .arr t z n l => h.get i = .arr t z n l
 | .map es c => h.get i = .map es c
def MB.live : MB → Bool | .no => false | _ => true
def BlksAt (h : Heap) (f : Nat → Nat) : List Nat → List MB → Prop
 | [], [] => True
 | i :: is, b :: bs => (b.live = true ∧ MbAt h i (b.ren f)) ∧ BlksAt h f is bs
 | _, _ => False
theorem BlksAt.len {h : Heap} {f : Nat → Nat} : ∀ {is : List Nat} {bs : List MB}, BlksAt h f is bs → is.length = bs.length
 | [], [], _ => rfl
 | [], _ :: _, h => h.elim
 | _ :: _, [], h => h.elim
 | i :: is, b :: bs, ⟨_, h⟩ => by simp only [List.length_cons, h.len]
theorem BlksAt.at_ {h : Heap} {f : Nat → Nat} : ∀ {is : List Nat} {bs : List MB} {n j : Nat} {b : MB}, BlksAt h f is bs → bs[j]? = some b → b.live = true ∧ MbAt h (sg is n j) (b.ren f)
 | [], [], n, j, b, _, e => by simp at e
 | [], _ :: _, n, j, b, h, _ => h.elim
 | _ :: _, [], n, j, b, h, _ => h.elim
 | i :: is, b :: bs, n, 0, b', ⟨h, _⟩, e => by simp at e; subst e; exact h
 | i :: is, b :: bs, n, j + 1, b', ⟨_, h⟩, e => by simp only [sg]; exact h.at_ (by simpa using e)
def ptrs : List MB → Nat → List AV
 | [], _ => []
 | .row _ _ :: r, j => .ptr j 0 :: ptrs r (j + 1)
 | .arr _ _ _ _ :: r, j => ptrs r (j + 1)
 | .map _ _ :: r, j => .mp j :: ptrs r (j + 1)
 | .no :: r, j => ptrs r (j + 1)
theorem ptrs_mem : ∀ {bs : List MB} {n j : Nat} {t : TypeId} {cs : List AV}, bs[j]? = some (.row t cs) → AV.ptr (n + j) 0 ∈ ptrs bs n
 | [], n, j, t, cs, h => by simp at h
 | x :: r, n, 0, t, cs, h => by simp at h; subst h; simp [ptrs]
 | x :: r, n, j + 1, t, cs, h => by
  have ih := ptrs_mem (bs := r) (n := n + 1) (j := j) (by simpa using h)
  rw [show n + 1 + j = n + (j + 1) by omega] at ih
  cases x <;> simp only [ptrs] <;> first | exact List.mem_cons_of_mem _ ih | exact ih
theorem mps_mem : ∀ {bs : List MB} {n j : Nat} {es : List (AV × AV × Nat)} {c : Nat}, bs[j]? = some (.map es c) → AV.mp (n + j) ∈ ptrs bs n
 | [], n, j, es, c, h => by simp at h
 | x :: r, n, 0, es, c, h => by simp at h; subst h; simp [ptrs]
 | x :: r, n, j + 1, es, c, h => by
  have ih := mps_mem (bs := r) (n := n + 1) (j := j) (by simpa using h)
  rw [show n + 1 + j = n + (j + 1) by omega] at ih
  cases x <;> simp only [ptrs] <;> first | exact List.mem_cons_of_mem _ ih | exact ih
def arrI : List Nat → List MB → List Nat
 | i :: is, .row _ _ :: bs => arrI is bs
 | i :: is, .map _ _ :: bs => arrI is bs
 | i :: is, _ :: bs => i :: arrI is bs
 | _, _ => []
def rowI : List Nat → List MB → List Nat
 | i :: is, .row _ _ :: bs => i :: rowI is bs
 | i :: is, .map _ _ :: bs => i :: rowI is bs
 | i :: is, _ :: bs => rowI is bs
 | _, _ => []
theorem arr_or : ∀ {is : List Nat} {bs : List MB} {i : Nat}, is.length = bs.length → i ∈ is → inL (arrI is bs) i = true ∨ inL (rowI is bs) i = true
 | [], _, i, _, h => by cases h
 | x :: is, [], i, hl, _ => by simp at hl
 | x :: is, b :: bs, i, hl, h => by
  have hl' : is.length = bs.length := by simpa using hl
  rcases List.mem_cons.1 h with rfl | h
  ·cases b <;> simp [arrI, rowI, inL]
  ·rcases arr_or hl' h with q | q
   ·left
    cases b <;> simp only [arrI] <;> first | exact q | (unfold inL; split <;> first | rfl | exact q)
   ·right
    cases b <;> simp only [rowI] <;> first | exact q | (unfold inL; split <;> first | rfl | exact q)
theorem row_at_ : ∀ {is : List Nat} {bs : List MB} {i n : Nat}, inL (rowI is bs) i = true → ∃ j b, bs[j]? = some b ∧ ((∃ t cs, b = .row t cs) ∨ ∃ es c, b = .map es c) ∧ sg is n j = i
 | [], _, i, n, h => by simp [rowI, inL] at h
 | x :: is, [], i, n, h => by simp [rowI, inL] at h
 | x :: is, b :: bs, i, n, h => by
  have ih := fun q => row_at_ (is := is) (bs := bs) (i := i) (n := n) q
  have tl : (inL (rowI is bs) i = true) → ∃ j b', (b :: bs)[j]? = some b' ∧ ((∃ t cs, b' = .row t cs) ∨ ∃ es c, b' = .map es c) ∧ sg (x :: is) n j = i := fun q => by
   obtain ⟨j, b', h1, h0, h2⟩ := ih q
   exact ⟨j + 1, b', by simpa using h1, h0, by simpa only [sg] using h2⟩
  cases b with
  | row t cs =>
   simp only [rowI] at h
   unfold inL at h
   split at h
   ·rename_i q; exact ⟨0, _, rfl, .inl ⟨t, cs, rfl⟩, by simp only [sg]; exact beqT q⟩
   ·exact tl h
  | map es c =>
   simp only [rowI] at h
   unfold inL at h
   split at h
   ·rename_i q; exact ⟨0, _, rfl, .inr ⟨es, c, rfl⟩, by simp only [sg]; exact beqT q⟩
   ·exact tl h
  | no => exact tl h
  | arr a b c d => exact tl h
/-! ## what others hold stays -/
def nin (A : List Nat) (i : Nat) : Bool := match inL A i with | true => false | false => true
def nin2 (A R : List Nat) (i : Nat) : Bool := match inL A i with | true => false | false => nin R i
theorem nin_f {A : List Nat} {i : Nat} (h : nin A i = true) : inL A i = false := by
 unfold nin at h
 split at h
 ·cases h
 ·assumption
theorem nin2_f {A R : List Nat} {i : Nat} (h : nin2 A R i = true) : inL A i = false ∧ inL R i = false := by
 unfold nin2 at h
 split at h
 ·cases h
 ·exact ⟨by assumption, nin_f h⟩
mutual
def okB (A R : List Nat) : AV → Bool
 | .ptr i _ => nin A i
 | .sl i _ _ _ _ => nin2 A R i
 | .esl i => nin2 A R i
 | .mp i => nin A i
 | .own i _ _ => nin2 A R i
 | .optr i _ _ => nin2 A R i
 | .fn f a b => (match (match f with | .yield l => nin2 A R l | _ => true) with | true => (match oksB A R a with | true => oksB A R b | false => false) | false => false)
 | .ifc _ a => okB A R a
 | .agg l => oksB A R l
 | .tup l => oksB A R l
 | _ => true
def oksB (A R : List Nat) : List AV → Bool
 | [] => true
 | a :: l => (match okB A R a with | true => oksB A R l | false => false)
end
structure SubM (A R : List Nat) (ρ σ : Map) : Prop where
 m : ∀ i p, inL A i = false → inL R i = false → ρ i = some p → σ i = some p
 r : ∀ i B N, inL A i = false → inL R i = true → ρ i = some (B, N) → ∃ N', σ i = some (B, N')
 F : ∀ (b j : Nat) (x : Value), (ρ.F b)[j]? = some x → (σ.F b)[j]? = some x
 V : ∀ i n v, inL A i = false → inL R i = false → ρ.V i n = some v → σ.V i n = some v
theorem SubM.d {A R : List Nat} {ρ σ : Map} (h : SubM A R ρ σ) : Sub ρ.d σ.d := ⟨(fun _ _ e => by cases e), h.F, (fun _ _ _ e => by cases e)⟩
theorem SubM.fz {A R : List Nat} {ρ σ : Map} (h : SubM A R ρ σ) {B o : Nat} {L : List Value} (q : Fz ρ B o L) : Fz σ B o L := fun j x e => h.F B _ x (q j x e)
mutual
theorem okB_ok {A R : List Nat} {ρ σ : Map} (s : SubM A R ρ σ) : ∀ (a : AV) {v : Value}, okB A R a = true → VR ρ a v → VR σ a v
 | .bad, _, _, _ => by simp [VR]
 | .bool b, _, _, q => by simpa [VR] using q
 | .int _ _, _, _, q => by simpa [VR] using q
 | .str l, _, _, q => by simpa [VR] using q
 | .nilptr, _, _, q => by simpa [VR] using q
 | .ptr i o, v, h, q => by
  simp only [okB] at h
  simp only [VR] at q ⊢
  obtain ⟨B, N, e, r⟩ := q
  cases hr : inL R i with
  | true => obtain ⟨N', e'⟩ := s.r i B N (nin_f h) hr e; exact ⟨B, N', e', r⟩
  | false => exact ⟨B, N, s.m i _ (nin_f h) hr e, r⟩
 | .nilsl, _, _, q => by simpa [VR] using q
 | .sl i o l c z, v, h, q => by
  simp only [okB] at h
  simp only [VR] at q ⊢
  obtain ⟨B, N, C, e, r⟩ := q; exact ⟨B, N, C, s.m i _ (nin2_f h).1 (nin2_f h).2 e, r⟩
 | .esl i, v, h, q => by
  simp only [okB] at h
  simp only [VR] at q ⊢
  obtain ⟨B, N, o, C, e, r⟩ := q; exact ⟨B, N, o, C, s.m i _ (nin2_f h).1 (nin2_f h).2 e, r⟩
 | .nilmp, _, _, q => by simpa [VR] using q
 | .mp i, v, h, q => by
  simp only [okB] at h
  simp only [VR] at q ⊢
  obtain ⟨B, N, e, r⟩ := q
  cases hr : inL R i with
  | true => obtain ⟨N', e'⟩ := s.r i B N (nin_f h) hr e; exact ⟨B, N', e', r⟩
  | false => exact ⟨B, N, s.m i _ (nin_f h) hr e, r⟩
 | .nilfn, _, _, q => by simpa [VR] using q
 | .fn f a b, v, h, q => by
  have h' := h
  simp only [okB] at h'
  split at h'
  ·rename_i hf
   split at h'
   ·rename_i ha
    simp only [VR] at q ⊢
    obtain ⟨f', F, C, e1, e2, e3, e4⟩ := q
    refine ⟨f', F, C, ?_, oksB_ok s a ha e2, oksB_ok s b h' e3, e4⟩
    cases f <;> simp only [FR] at e1 ⊢
    all_goals first | exact e1 | (obtain ⟨B, N, e, r⟩ := e1; exact ⟨B, N, s.m _ _ (nin2_f hf).1 (nin2_f hf).2 e, r⟩)
   ·cases h'
  ·cases h'
 | .nilifc, _, _, q => by simpa [VR] using q
 | .ifc t a, v, h, q => by
  simp only [okB] at h
  simp only [VR] at q ⊢
  obtain ⟨x, e, r⟩ := q; exact ⟨x, okB_ok s a h e, r⟩
 | .agg l, v, h, q => by
  simp only [okB] at h
  simp only [VR] at q ⊢
  obtain ⟨x, e, r⟩ := q; exact ⟨x, oksB_ok s l h e, r⟩
 | .tup l, v, h, q => by
  simp only [okB] at h
  simp only [VR] at q ⊢
  obtain ⟨x, e, r⟩ := q; exact ⟨x, oksB_ok s l h e, r⟩
 | .gptr g o, _, _, q => by simpa [VR] using q
 | .anyb, _, _, q => by simpa [VR] using q
 | .big n, _, _, q => by simpa [VR] using q
 | .low n, _, _, q => by simpa [VR] using q
 | .anyi, _, _, q => by simpa [VR] using q
 | .rsl n z l, v, h, q => by
  simp only [VR] at q ⊢
  obtain ⟨h0, k | ⟨B, o, C, L, e1, e2, e3, e4⟩⟩ := q
  ·exact ⟨h0, .inl k⟩
  ·exact ⟨h0, .inr ⟨B, o, C, L, e1, e2, VRs.mono s.d l e3, s.fz e4⟩⟩
 | .rptr l, v, h, q => by
  simp only [VR] at q ⊢
  obtain ⟨B, o, L, e1, e3, e4⟩ := q
  exact ⟨B, o, L, e1, VRs.mono s.d l e3, s.fz e4⟩
 | .csl, _, _, q => by simpa [VR] using q
 | .own i m z, v, h, q => by
  simp only [okB] at h
  simp only [VR] at q ⊢; exact ⟨s.V _ _ _ (nin2_f h).1 (nin2_f h).2 q.1, q.2⟩
 | .optr i m o, v, h, q => by
  simp only [okB] at h
  simp only [VR] at q ⊢
  obtain ⟨B, C, e1, e2⟩ := q
  exact ⟨B, C, s.V _ _ _ (nin2_f h).1 (nin2_f h).2 e1, e2⟩
theorem oksB_ok {A R : List Nat} {ρ σ : Map} (s : SubM A R ρ σ) : ∀ (l : List AV) {L : List Value}, oksB A R l = true → VRs ρ l L → VRs σ l L
 | [], _, _, q => by simpa [VRs] using q
 | a :: l, L, h, q => by
  have h' := h
  simp only [oksB] at h'
  split at h'
  ·rename_i ha
   simp only [VRs] at q ⊢
   obtain ⟨x, r, e1, e2, e3⟩ := q
   exact ⟨x, r, okB_ok s a ha e1, oksB_ok s l h' e2, e3⟩
  ·cases h'
end
def ABOk (A R : List Nat) (b : AB) : Prop :=
 match b with
 | .none => True
 | .row r => ((List.range r.n).all fun j => okB A R (r.get j)) = true
 | .loop l => ∃ lst, l.e = T.put und lst .leaf 0 ∧ oksB A R lst = true ∧ nin2 A R l.defers = true
 | .dfr _ => True
 | .arr _ _ _ _ => True
 | .map es _ => datEs es = true
 | _ => False
theorem put_okB {A R : List Nat} : ∀ {lst : List AV}, oksB A R lst = true → ∀ t, okB A R ((T.put und lst (.leaf : T AV) 0).get und t) = true := fun {lst} h t => by
 rw [get_put]
 simp only [Nat.zero_le, if_true, Nat.sub_zero, get_leaf]
 have key : ∀ (l : List AV), oksB A R l = true → ∀ (i : Nat) (a : AV), l[i]? = some a → okB A R a = true := by
  intro l
  induction l with
  | nil => intro _ i a q; simp at q
  | cons x l ih =>
   intro h i a q
   simp only [oksB] at h
   split at h
   ·rename_i hx
    cases i with
    | zero => simp at q; subst q; exact hx
    | succ i => exact ih h i a (by simpa using q)
   ·cases h
 cases hq : lst[t]? with
 | none => rfl
 | some a => exact key lst h t a hq
theorem ABR.okm {A R : List Nat} {ρ σ : Map} (s : SubM A R ρ σ) {b : AB} (hb : ABOk A R b) {B N : Nat} {w : World} (h : ABR ρ b B N w) : ABR σ b B N w := by
 cases b with
 | none => trivial
 | row r =>
  refine ⟨h.1, h.2.1, h.2.2.1, fun j hj => ?_⟩
  obtain ⟨v, a, q⟩ := h.2.2.2 j hj
  exact ⟨v, a, okB_ok s _ (List.all_eq_true.1 hb j (List.mem_range.2 hj)) q⟩
 | loop l =>
  obtain ⟨lst, e1, e2, e3⟩ := hb
  obtain ⟨fn, tm, D, M, a, q, r⟩ := h
  refine ⟨fn, tm, D, M, a, ⟨q.1, fun t => ?_⟩, s.m _ _ (nin2_f e3).1 (nin2_f e3).2 r⟩
  have := q.2 t
  rw [e1] at this ⊢
  exact okB_ok s _ (put_okB e2 t) this
 | dfr b => exact h
 | arr t z m l =>
  have h : RowOk ρ.d ⟨t, m * z, .leaf, l, none⟩ B N w := h
  exact RowOk.mono h s.d
 | map es c => obtain ⟨ES, e1, e2⟩ := h; exact ⟨ES, e1, e2.dat s.d hb⟩
 | sit l p => exact hb.elim
 | mit m a b c => exact hb.elim
 | gl r => exact hb.elim
def HOk (is A R : List Nat) (h : Heap) : Prop := allN h.nxt fun i => inL is i = true ∨ ABOk A R (h.get i)
theorem HOk.at_ {is A R : List Nat} {h : Heap} (q : HOk is A R h) (wf : WF h) {i : Nat} (hi : i ∉ is) : ABOk A R (h.get i) := by
 rcases Nat.lt_or_ge i h.nxt with q' | q'
 ·rcases allN_at q q' with r | r
  ·exact absurd (inL_mem r) hi
  ·exact r
 ·rw [wf.fresh i q']; trivial
end Go.Px
end
section
namespace Go.Px
theorem Row.read_get (r : Row) (n j : Nat) (h : j < n) : (r.read 0 n).getD j .bad = r.get j := by
 rw [Row.read_eq, List.getD_eq_getElem?_getD, Row.readS_at r n 0 j h, Nat.zero_add]; rfl
theorem sg_mem {b : Nat} : ∀ {is : List Nat} {i : Nat}, i ∈ is → ∃ j, j < is.length ∧ sg is b j = i
 | x :: r, i, h => by
  rcases List.mem_cons.1 h with rfl | h
  ·exact ⟨0, by simp, rfl⟩
  ·obtain ⟨j, j1, j2⟩ := sg_mem (b := b) h
   exact ⟨j + 1, by simpa using j1, by simpa only [sg] using j2⟩
theorem hq_get (N : Nat) (bs : List AB) (i : Nat) : (hq N bs).get i = (bs[i]?).getD .none := by
 show (T.put AB.none bs .leaf 0).get .none i = _
 rw [get_put]
 simp
theorem hq_ab (N : Nat) (bs : List MB) (i : Nat) : (hq N (bs.map MB.ab)).get i = ((bs[i]?).map MB.ab).getD .none := by
 rw [hq_get, List.getElem?_map]
theorem hq_mb {N : Nat} {bs : List MB} {i : Nat} {b : AB} (h : (hq N (bs.map MB.ab)).get i = b) (hn : b ≠ .none) : ∃ x, bs[i]? = some x ∧ x.ab = b := by
 rw [hq_ab] at h
 cases e : bs[i]? with
 | none => rw [e] at h; exact absurd h.symm hn
 | some x => rw [e] at h; exact ⟨x, rfl, h⟩
theorem hq_wf {N : Nat} {bs : List MB} (hN : bs.length = N) : WF (hq N (bs.map MB.ab)) := by
 refine ⟨fun i hi => ?_, fun i r q a b => ?_, fun i r q t a b c => ?_, fun q _ => get_leaf none q⟩
 ·have hi : N ≤ i := hi
  rw [hq_ab, List.getElem?_eq_none (by omega)]; rfl
 ·obtain ⟨x, x1, x2⟩ := hq_mb a (by simp)
  cases x <;> simp only [MB.ab] at x2 <;> cases x2
  cases b
 ·obtain ⟨x, x1, x2⟩ := hq_mb a (by simp)
  cases x <;> simp only [MB.ab] at x2 <;> cases x2
  cases b
theorem hq_okm {N : Nat} {bs : List MB} {i : Nat} (h : (hq N (bs.map MB.ab)).ok i) : ∃ x, bs[i]? = some x ∧ (hq N (bs.map MB.ab)).get i = x.ab ∧ x.live = true := by
 have hne : (hq N (bs.map MB.ab)).get i ≠ .none := fun q => by unfold Heap.ok at h; rw [q] at h; exact h
 obtain ⟨x, x1, x2⟩ := hq_mb (b := (hq N (bs.map MB.ab)).get i) rfl hne
 refine ⟨x, x1, x2.symm, ?_⟩
 cases x with
 | no => exact absurd x2.symm hne
 | row t cs => rfl
 | arr t z n l => rfl
 | map es c => rfl
def opnOf (ρ : Map) (B : Nat) : Prop := ∃ j N, ρ j = some (B, N)
def inMap (ρ : Map) (is : List Nat) (b k : Nat) : Map := cutN (pull ρ (sg is b)) k
theorem inMap_m {ρ : Map} {is : List Nat} {b k j : Nat} {p : Nat × Nat} (h : inMap ρ is b k j = some p) : j < k ∧ ρ (sg is b j) = some p := by
 unfold inMap at h
 by_cases hj : j < k
 ·rw [cutN_m hj] at h; exact ⟨hj, h⟩
 ·rw [cutN_n hj] at h; cases h
theorem MbAt.okk {h : Heap} {i : Nat} {b : MB} (hl : b.live = true) (hb : MbAt h i b) : h.ok i := by
 cases b with
 | no => cases hl
 | row t cs =>
  obtain ⟨r, r1, _, _, r4, _⟩ := hb
  unfold Heap.ok; rw [r1]; simp only []; rw [Heap.row_of r1, r4]; rfl
 | arr t z n l =>
  have hb : h.get i = .arr t z n l := hb
  unfold Heap.ok; rw [hb]; trivial
 | map es c =>
  have hb : h.get i = .map es c := hb
  unfold Heap.ok; rw [hb]; trivial
theorem MbAt.noroot {h : Heap} {i : Nat} {b : MB} (hl : b.live = true) (hb : MbAt h i b) {r : Row} (e : h.get i = .row r) : r.root = none := by
 cases b with
 | no => cases hl
 | row t cs =>
  obtain ⟨r', r1, _, _, r4, _⟩ := hb
  rw [r1] at e; cases e; exact r4
 | arr t z n l =>
  have hb : h.get i = .arr t z n l := hb
  rw [hb] at e; cases e
 | map es c =>
  have hb : h.get i = .map es c := hb
  rw [hb] at e; cases e
theorem MbAt.nogl {h : Heap} {i : Nat} {b : MB} (hl : b.live = true) (hb : MbAt h i b) {r : Row} : h.get i ≠ .gl r := by
 cases b with
 | no => cases hl
 | row t cs =>
  obtain ⟨r', r1, _⟩ := hb
  rw [r1]; exact fun e => by cases e
 | arr t z n l =>
  have hb : h.get i = .arr t z n l := hb
  rw [hb]; exact fun e => by cases e
 | map es c =>
  have hb : h.get i = .map es c := hb
  rw [hb]; exact fun e => by cases e
theorem ren_live {f : Nat → Nat} {b : MB} : (b.ren f).live = b.live := by cases b <;> rfl
section
variable {X : Cx} {ρ : Map} {h : Heap} {w : World} (p : PI X ρ h w) {is : List Nat} {bs : List MB}
include p
theorem PI.enter (hg : ∀ i r, X.c.g0.get i ≠ .gl r) (hap : apart h.nxt is = true) (hb : BlksAt h (sg is h.nxt) is bs) (hlow : lowM bs.length bs = true) {gx : List Value} (hgx : VRs (inMap ρ is h.nxt bs.length) (ptrs bs 0) gx) :
  PI ⟨X.c, w, ρ.F, opnOf (inMap ρ is h.nxt bs.length), none, none, [], ptrs bs 0, gx⟩ (inMap ρ is h.nxt bs.length) (hq bs.length (bs.map MB.ab)) w := by
 have hlen := hb.len
 refine ⟨⟨fun i B N e => p.hr.lt _ B N (inMap_m e).2, fun i B N e q => ?_, fun i j B N M hij e1 e2 k1 k2 => ?_, fun i r q => ?_, p.hr.fz, fun i B N e q => ?_, fun i t z n l q => ?_⟩, hq_wf rfl, ⟨fun i hi => cutN_n (show ¬ i < bs.length from Nat.not_lt.2 hi), fun i r q => absurd q (hg i r)⟩, fun i hi n => if_neg (show ¬ i < bs.length from Nat.not_lt.2 hi), fun i t z n l q m' hm' => ?_, ⟨Same.refl w, fun _ _ => rfl⟩, fun i B N e hs => hs.2 ⟨i, N, e⟩, fun _ _ _ e => e, fun _ _ => rfl, hgx, fun G q => by cases q⟩
 ·obtain ⟨hi, e'⟩ := inMap_m e
  obtain ⟨x, x1, x2, x3⟩ := hq_okm q
  obtain ⟨_, y2⟩ := hb.at_ (n := h.nxt) x1
  have hok := MbAt.okk (by rw [ren_live]; exact x3) y2
  have hr := p.hr.ok _ B N e' hok
  rw [x2]
  cases x with
  | no => trivial
  | arr t z n l =>
   have y2 : h.get (sg is h.nxt i) = .arr t z n l := y2
   rw [y2] at hr; exact hr
  | map es c =>
   have y2 : h.get (sg is h.nxt i) = .map es c := y2
   rw [y2] at hr
   obtain ⟨ES, e1, e2⟩ := hr
   exact ⟨ES, e1, MapR.dat (ρ := ρ) (σ := inMap ρ is h.nxt bs.length) (show Sub ρ.d (inMap ρ is h.nxt bs.length).d from Sub.refl ρ.d) (lowM_at hlow x1) e2⟩
  | row t cs =>
   obtain ⟨r, r1, r2, r3, r4, r5⟩ := y2
   rw [r1] at hr
   have hr : RowOk ρ r B N w := hr
   rw [rens_length] at r3
   refine ⟨by rw [← r2]; exact hr.1, by rw [← r3]; exact hr.2.1, hr.2.2.1, fun j hj => ?_⟩
   have hj : j < cs.length := hj
   obtain ⟨v, v1, v2⟩ := hr.2.2.2 j (by omega)
   refine ⟨v, v1, ?_⟩
   rw [row_at_i hj]
   have e5 : r.get j = ren (sg is h.nxt) (cs.getD j .bad) := by
    rw [← rens_get, ← r5, Row.read_get r r.n j (by omega)]
   rw [e5] at v2
   exact low_ok _ (lows_at (lowM_at hlow x1) hj) ((vr_ren _ _).1 v2)
 ·obtain ⟨x, x1, x2, x3⟩ := hq_okm k1
  obtain ⟨y, y1, y2, y3⟩ := hq_okm k2
  obtain ⟨_, z1⟩ := hb.at_ (n := h.nxt) x1
  obtain ⟨_, z2⟩ := hb.at_ (n := h.nxt) y1
  obtain ⟨r, s, q, a, b, c, _⟩ := p.hr.inj _ _ B N M (fun e => hij (sg_inj hap e)) (inMap_m e1).2 (inMap_m e2).2 (MbAt.okk (by rw [ren_live]; exact x3) z1) (MbAt.okk (by rw [ren_live]; exact y3) z2)
  rw [MbAt.noroot (by rw [ren_live]; exact x3) z1 a] at c; cases c
 ·obtain ⟨x, x1, x2⟩ := hq_mb q (by simp)
  cases x <;> simp only [MB.ab] at x2 <;> cases x2
 ·obtain ⟨x, x1, x2, x3⟩ := hq_okm q
  obtain ⟨_, z1⟩ := hb.at_ (n := h.nxt) x1
  exact .inl (p.hr.F_row (inMap_m e).2 (MbAt.okk (by rw [ren_live]; exact x3) z1) (fun r => MbAt.nogl (by rw [ren_live]; exact x3) z1))
 ·obtain ⟨x, x1, x2⟩ := hq_mb q (by simp)
  cases x <;> simp only [MB.ab] at x2 <;> cases x2
  obtain ⟨_, y2⟩ := hb.at_ (n := h.nxt) x1
  have hi := (List.getElem?_eq_some_iff.1 x1).1
  obtain ⟨h0, ⟨a, o, b⟩ | ⟨B, N, C, e1, e2, e3⟩⟩ := p.hr.av _ t z n l y2
  ·exact ⟨h0, .inl ⟨a, o, (cutN_V hi _).trans b⟩⟩
  ·exact ⟨h0, .inr ⟨B, N, C, (cutN_m hi).trans e1, (cutN_V hi _).trans e2, e3⟩⟩
 ·obtain ⟨x, x1, x2⟩ := hq_mb q (by simp)
  cases x <;> simp only [MB.ab] at x2 <;> cases x2
  obtain ⟨_, y2⟩ := hb.at_ (n := h.nxt) x1
  exact (cutN_V (List.getElem?_eq_some_iff.1 x1).1 _).trans (p.vu _ t z n l y2 m' hm')
def outMap (ρ ρ' : Map) (is : List Nat) (b k : Nat) : Map :=
 ⟨fun i => (match tau is b i with | some j => cutN ρ' k j | none => ρ i), ρ'.F, fun i n => (match tau is b i with | some j => (cutN ρ' k).V j n | none => ρ.V i n)⟩
omit p in
theorem outMap_m {ρ ρ' : Map} {is : List Nat} {b k i j : Nat} (e : tau is b i = some j) : outMap ρ ρ' is b k i = cutN ρ' k j := by unfold outMap; simp only [e]
omit p in
theorem outMap_n {ρ ρ' : Map} {is : List Nat} {b k i : Nat} (e : tau is b i = none) : outMap ρ ρ' is b k i = ρ i := by unfold outMap; simp only [e]
omit p in
theorem outMap_V {ρ ρ' : Map} {is : List Nat} {b k i j : Nat} (e : tau is b i = some j) (n : Nat) : (outMap ρ ρ' is b k).V i n = (cutN ρ' k).V j n := by unfold outMap; simp only [e]
omit p in
theorem outMap_W {ρ ρ' : Map} {is : List Nat} {b k i : Nat} (e : tau is b i = none) (n : Nat) : (outMap ρ ρ' is b k).V i n = ρ.V i n := by unfold outMap; simp only [e]
omit p in
theorem outMap_ren {ρ ρ' : Map} {is : List Nat} {b k : Nat} (hap : apart b is = true) {v : AV} {z : Value} (hl : lowB k v = true) (h : VR ρ' v z) : VR (outMap ρ ρ' is b k) (ren (sg is b) v) z := by
 refine (vr_ren _ _).2 (VR.mono (ρ := cutN ρ' k) (σ := pull (outMap ρ ρ' is b k) (sg is b)) ⟨fun i q e => ?_, fun _ _ _ e => e, fun i n q e => ?_⟩ v (low_ok v hl h))
 ·show outMap ρ ρ' is b k (sg is b i) = some q
  rw [outMap_m (tau_sg i hap)]; exact e
 ·show (outMap ρ ρ' is b k).V (sg is b i) n = some q
  rw [outMap_V (tau_sg i hap)]; exact e
theorem PI.back (hg : ∀ i r, X.c.g0.get i ≠ .gl r) (hap : apart h.nxt is = true) (hb : BlksAt h (sg is h.nxt) is bs) {gx : List Value} (hgx : VRs (inMap ρ is h.nxt bs.length) (ptrs bs 0) gx)
  (hI : HOk is (arrI is bs) (rowI is bs) h) (hG : oksB (arrI is bs) (rowI is bs) X.gv = true) (hz : X.g = none ∨ (nin is 0 && nin is 1 && Nat.ble 2 h.nxt) = true) {bs' : List MB} (hle : bs.length ≤ bs'.length) (hlow : lowM bs'.length bs' = true) {ρ' : Map} {w' : World}
  (q : PI ⟨X.c, w, ρ.F, opnOf (inMap ρ is h.nxt bs.length), none, none, [], ptrs bs 0, gx⟩ ρ' (hq bs'.length (bs'.map MB.ab)) w') :
  PI X (outMap ρ ρ' is h.nxt bs'.length) (mixN h.nxt h is (bs'.map fun b => (b.ren (sg is h.nxt)).ab)) w' ∧ SubM (arrI is bs) (rowI is bs) ρ (outMap ρ ρ' is h.nxt bs'.length) := by
 have hlen := hb.len
 have hle' : is.length ≤ (bs'.map fun b => (b.ren (sg is h.nxt)).ab).length := by rw [List.length_map]; omega
 have hnew : ∀ i, h.nxt ≤ i → ρ i = none := fun i hi => p.fr.1 i hi
 have hsome : ∀ {i j}, tau is h.nxt i = some j → sg is h.nxt j = i := fun e => sg_tau e
 have hnone : ∀ {i}, tau is h.nxt i = none → i ∉ is ∧ i < h.nxt := fun {i} e => by
  constructor
  ·intro hi
   obtain ⟨j, hj, rfl⟩ := sg_mem (b := h.nxt) hi
   rw [tau_sg j hap] at e; cases e
  ·rcases Nat.lt_or_ge i h.nxt with r | r
   ·exact r
   ·have e2 : sg is h.nxt (is.length + (i - h.nxt)) = i := by rw [sg_ge (by omega)]; omega
    rw [← e2, tau_sg _ hap] at e; cases e
 have g1 : ∀ {i j}, tau is h.nxt i = some j → ∀ {b}, bs'[j]? = some b → (mixN h.nxt h is (bs'.map fun b => (b.ren (sg is h.nxt)).ab)).get i = (b.ren (sg is h.nxt)).ab := fun {i j} e {b} hb' => by
  rw [mix_get _ _ _ _ _ hle' hap, e]
  simp only [List.getElem?_map, hb', Option.map_some, Option.getD_some]
 have g2 : ∀ {i}, tau is h.nxt i = none → (mixN h.nxt h is (bs'.map fun b => (b.ren (sg is h.nxt)).ab)).get i = h.get i := fun {i} e => by
  rw [mix_get _ _ _ _ _ hle' hap, e]
 have g3 : ∀ {i j}, tau is h.nxt i = some j → bs'[j]? = none → (mixN h.nxt h is (bs'.map fun b => (b.ren (sg is h.nxt)).ab)).get i = .none := fun {i j} e hb' => by
  rw [mix_get _ _ _ _ _ hle' hap, e]
  simp only [List.getElem?_map, hb', Option.map_none, Option.getD_none]
  have := List.getElem?_eq_none_iff.1 hb'
  have e2 := hsome e
  rw [sg_ge (by omega)] at e2
  exact p.wf.fresh i (by omega)
 have gn := mix_nxt is (bs'.map fun b => (b.ren (sg is h.nxt)).ab) h.nxt h hle' rfl
 rw [List.length_map] at gn
 have gt := mix_tip is (bs'.map fun b => (b.ren (sg is h.nxt)).ab) h.nxt h
 generalize mixN h.nxt h is (bs'.map fun b => (b.ren (sg is h.nxt)).ab) = H at *
 have hin : ∀ {i j}, tau is h.nxt i = some j → H.ok i → ∃ b, bs'[j]? = some b ∧ H.get i = (b.ren (sg is h.nxt)).ab ∧ b.live = true ∧ (hq bs'.length (bs'.map MB.ab)).ok j ∧ (hq bs'.length (bs'.map MB.ab)).get j = b.ab := fun {i j} e o => by
  cases hb' : bs'[j]? with
  | none => unfold Heap.ok at o; rw [g3 e hb'] at o; exact o.elim
  | some b =>
   have hgj : (hq bs'.length (bs'.map MB.ab)).get j = b.ab := by rw [hq_ab, hb']; rfl
   refine ⟨b, rfl, g1 e hb', ?_, ?_, hgj⟩
   ·cases b with
    | no => unfold Heap.ok at o; rw [g1 e hb'] at o; exact o.elim
    | row t cs => rfl
    | arr t z n l => rfl
    | map es c => rfl
   ·cases b with
    | no => unfold Heap.ok at o; rw [g1 e hb'] at o; exact o.elim
    | row t cs =>
     have hgj : (hq bs'.length (bs'.map MB.ab)).get j = .row ⟨t, cs.length, .leaf, cs, none⟩ := hgj
     unfold Heap.ok; rw [hgj]; simp only []; rw [Heap.row_of hgj]; rfl
    | arr t z n l =>
     have hgj : (hq bs'.length (bs'.map MB.ab)).get j = .arr t z n l := hgj
     unfold Heap.ok; rw [hgj]; trivial
    | map es c =>
     have hgj : (hq bs'.length (bs'.map MB.ab)).get j = .map es c := hgj
     unfold Heap.ok; rw [hgj]; trivial
 have hoth : ∀ {i}, tau is h.nxt i = none → (H.ok i ↔ h.ok i) := fun e => Heap.ok_same (g2 e) (fun r q _ _ => by rw [gt])
 have hsz : w.heap.size ≤ w'.heap.size := q.ext.1.size
 have other : ∀ {i B N}, tau is h.nxt i = none → ρ i = some (B, N) → h.ok i → ¬ opnOf (inMap ρ is h.nxt bs.length) B := fun {i B N} e e1 o ⟨j, M, ej⟩ => by
  obtain ⟨hj, e2⟩ := inMap_m ej
  have hne : i ≠ sg is h.nxt j := fun ee => by rw [ee, tau_sg j hap] at e; cases e
  obtain ⟨b, hbj⟩ : ∃ b, bs[j]? = some b := ⟨_, List.getElem?_eq_getElem hj⟩
  obtain ⟨y1, y2⟩ := hb.at_ (n := h.nxt) hbj
  obtain ⟨r, s, qq, a, c, d, f⟩ := p.hr.inj i _ B N M hne e1 e2 o (MbAt.okk (by rw [ren_live]; exact y1) y2)
  rw [MbAt.noroot (by rw [ren_live]; exact y1) y2 c] at f; cases f
 have stay : ∀ {i B N}, tau is h.nxt i = none → ρ i = some (B, N) → h.ok i → w'.heap[B]? = w.heap[B]? ∧ ρ'.F B = ρ.F B := fun {i B N} e e1 o => by
  have hB := p.hr.lt i B N e1
  exact ⟨q.ext.2 B ⟨hB, other e e1 o⟩, q.old B ⟨hB, other e e1 o⟩⟩
 have open_ : ∀ {B}, opnOf (inMap ρ is h.nxt bs.length) B → ¬ X.shut B := fun {B} ⟨j, M, ej⟩ => p.mine _ B M (inMap_m ej).2
 have hs : SubM (arrI is bs) (rowI is bs) ρ (outMap ρ ρ' is h.nxt bs'.length) := by
  refine ⟨fun i pp a r e => ?_, fun i B N a r e => ?_, q.sub, fun i n v a r e => ?_⟩
  ·cases ht : tau is h.nxt i with
   | none => rw [outMap_n ht]; exact e
   | some j =>
    have hi : i < h.nxt := by
     rcases Nat.lt_or_ge i h.nxt with x | x
     ·exact x
     ·rw [hnew i x] at e; cases e
    have hj := tau_lt ht hi
    have hmem : i ∈ is := by
     rcases sg_in is h.nxt j with x | x
     ·rw [hsome ht] at x; exact x
     ·rw [hsome ht] at x; omega
    rcases arr_or hlen hmem with x | x
    ·rw [a] at x; cases x
    ·rw [r] at x; cases x
  ·obtain ⟨j, b0, j1, j0, j2⟩ := row_at_ (n := h.nxt) r
   have hj := (List.getElem?_eq_some_iff.1 j1).1
   have key : ∀ (pv : AV) (mk : Nat → Value), pv ∈ ptrs bs 0 → (∀ B B', mk B = mk B' → B = B') → (∀ (σ : Map) (x : Value), VR σ pv x → ∃ B N, σ j = some (B, N) ∧ x = mk B) → ∃ N', outMap ρ ρ' is h.nxt bs'.length i = some (B, N') := fun pv mk hm hmk hv => by
    obtain ⟨m, hm⟩ := List.getElem?_of_mem hm
    have k1 := VRs.iff.1 hgx
    have k2 := VRs.iff.1 q.keep
    have hgl : m < gx.length := by rw [← k1.1]; exact (List.getElem?_eq_some_iff.1 hm).1
    have v1 := k1.2 m _ _ hm (List.getElem?_eq_getElem hgl)
    have v2 := k2.2 m _ _ hm (List.getElem?_eq_getElem hgl)
    obtain ⟨B1, N1, c1, d1⟩ := hv _ _ v1
    obtain ⟨B2, N2, c2, d2⟩ := hv _ _ v2
    rw [d1] at d2
    have d3 := hmk _ _ d2
    subst d3
    have := (inMap_m c1).2
    rw [j2, e] at this
    cases this
    refine ⟨N2, ?_⟩
    rw [← j2, outMap_m (tau_sg j hap), cutN_m (by omega)]; exact c2
   rcases j0 with ⟨t, cs, rfl⟩ | ⟨es, c, rfl⟩
   ·have hm := ptrs_mem (n := 0) j1
    rw [Nat.zero_add] at hm
    exact key _ (fun B => .pointer (some ⟨B, 0, none⟩)) hm (fun B B' e => by cases e; rfl) fun σ x hx => by
     simp only [VR] at hx
     exact hx
   ·have hm := mps_mem (n := 0) j1
    rw [Nat.zero_add] at hm
    exact key _ (fun B => .map (some B)) hm (fun B B' e => by cases e; rfl) fun σ x hx => by
     simp only [VR] at hx
     exact hx
  ·cases ht : tau is h.nxt i with
   | none => rw [outMap_W ht]; exact e
   | some j =>
    have hi : i < h.nxt := by
     rcases Nat.lt_or_ge i h.nxt with x | x
     ·exact x
     ·rw [p.vf i x] at e; cases e
    have hmem : i ∈ is := by
     rcases sg_in is h.nxt j with x | x
     ·rw [hsome ht] at x; exact x
     ·rw [hsome ht] at x; omega
    rcases arr_or hlen hmem with x | x
    ·rw [a] at x; cases x
    ·rw [r] at x; cases x
 have mineNew : ∀ {j B N}, ρ' j = some (B, N) → ¬ X.shut B := fun {j B N} e hsh => by
  have := q.mine j B N e
  refine this ⟨Nat.lt_of_lt_of_le hsh.1 p.ext.1.size, fun o => open_ o hsh⟩
 refine ⟨⟨⟨fun i B N e => ?_, fun i B N e o => ?_, fun i j B N M hij e1 e2 k1 k2 => ?_, fun i r e => ?_, q.hr.fz, fun i B N e o => ?_, fun i t z n l e => ?_⟩, ⟨fun i hi => ?_, fun i r qq a b => ?_, fun i r qq t a b c => ?_, fun qq hqq => ?_⟩, ⟨fun i hi => ?_, fun i r e => absurd e (hg i r)⟩, fun i hi n => ?_, fun i t z n l e m' hm' => ?_, ⟨p.ext.1.trans q.ext.1, fun b hbs => ?_⟩, fun i B N e => ?_, fun b j x e => q.sub b j x (p.sub b j x e), fun b hbs => ?_, oksB_ok hs _ hG p.keep, hz.elim (fun q G e => by rw [q] at e; cases e) fun hz => p.gh.go (fun t z n l e => ?_) q.ext.1 (fun b hbs hno => q.ext.2 b ⟨hbs, fun ⟨j, M, ej⟩ => ?_⟩) (fun i B N e o => ?_) (fun b hbs hno => q.old b ⟨hbs, fun ⟨j, M, ej⟩ => ?_⟩) (fun B N e => .inl ⟨N, ?_⟩) (fun b e => ?_) q.sub (fun v e => ?_)⟩, hs⟩
 ·cases ht : tau is h.nxt i with
  | none => rw [outMap_n ht] at e; exact Nat.lt_of_lt_of_le (p.hr.lt i B N e) hsz
  | some j =>
   rw [outMap_m ht] at e
   by_cases hj : j < bs'.length
   ·rw [cutN_m hj] at e; exact q.hr.lt j B N e
   ·rw [cutN_n hj] at e; cases e
 ·cases ht : tau is h.nxt i with
  | none =>
   rw [outMap_n ht] at e
   have o' := (hoth ht).1 o
   rw [g2 ht]
   exact ((p.hr.ok i B N e o').block (stay ht e o').1).okm hs (hI.at_ p.wf (hnone ht).1)
  | some j =>
   obtain ⟨b, b1, b2, b3, b4, b5⟩ := hin ht o
   have hj := (List.getElem?_eq_some_iff.1 b1).1
   rw [outMap_m ht, cutN_m hj] at e
   have hr := q.hr.ok j B N e b4
   rw [b5] at hr
   rw [b2]
   cases b with
   | no => trivial
   | arr t z n l => exact hr
   | map es c =>
    obtain ⟨ES, e1, e2⟩ := hr
    exact ⟨ES, e1, MapR.dat (ρ := ρ') (σ := outMap ρ ρ' is h.nxt bs'.length) (show Sub ρ'.d (outMap ρ ρ' is h.nxt bs'.length).d from Sub.refl ρ'.d) (lowM_at hlow b1) e2⟩
   | row t cs =>
    have hr : RowOk ρ' ⟨t, cs.length, .leaf, cs, none⟩ B N w' := hr
    refine ⟨hr.1, by show (rens _ cs).length ≤ N; rw [rens_length]; exact hr.2.1, hr.2.2.1, fun m hm => ?_⟩
    have hm : m < (rens (sg is h.nxt) cs).length := hm
    have hm' : m < cs.length := by rw [rens_length] at hm; exact hm
    obtain ⟨v, v1, v2⟩ := hr.2.2.2 m hm'
    refine ⟨v, v1, ?_⟩
    rw [row_at_i hm'] at v2
    show VR _ (Row.get ⟨t, (rens (sg is h.nxt) cs).length, .leaf, rens (sg is h.nxt) cs, none⟩ m) v
    rw [row_at_i hm, rens_get]
    exact outMap_ren hap (lows_at (lowM_at hlow b1) hm') v2
 ·cases ht : tau is h.nxt i with
  | none =>
   rw [outMap_n ht] at e1
   have o1 := (hoth ht).1 k1
   cases hu : tau is h.nxt j with
   | none =>
    rw [outMap_n hu] at e2
    obtain ⟨r, s, qq, a, b, c⟩ := p.hr.inj i j B N M hij e1 e2 o1 ((hoth hu).1 k2)
    exact ⟨r, s, qq, by rw [g2 ht]; exact a, by rw [g2 hu]; exact b, c⟩
   | some l =>
    exfalso
    obtain ⟨b, b1, b2, b3, b4, b5⟩ := hin hu k2
    have hl := (List.getElem?_eq_some_iff.1 b1).1
    rw [outMap_m hu, cutN_m hl] at e2
    exact q.mine l B M e2 ⟨p.hr.lt i B N e1, other ht e1 o1⟩
  | some l =>
   obtain ⟨b, b1, b2, b3, b4, b5⟩ := hin ht k1
   have hl := (List.getElem?_eq_some_iff.1 b1).1
   rw [outMap_m ht, cutN_m hl] at e1
   exfalso
   cases hu : tau is h.nxt j with
   | none =>
    rw [outMap_n hu] at e2
    exact q.mine l B N e1 ⟨p.hr.lt j B M e2, other hu e2 ((hoth hu).1 k2)⟩
   | some l2 =>
    obtain ⟨b', b1', b2', b3', b4', b5'⟩ := hin hu k2
    have hl' := (List.getElem?_eq_some_iff.1 b1').1
    rw [outMap_m hu, cutN_m hl'] at e2
    obtain ⟨r, s, qq, a, x, c, _⟩ := q.hr.inj l l2 B N M (fun e => hij (by rw [← hsome ht, ← hsome hu, e])) e1 e2 b4 b4'
    rw [b5] at a
    cases b <;> simp only [MB.ab] at a <;> cases a
    cases c
 ·cases ht : tau is h.nxt i with
  | none =>
   rw [g2 ht] at e
   obtain ⟨N, hN⟩ := p.hr.gl i r e
   exact ⟨N, by rw [outMap_n ht]; exact hN⟩
  | some j =>
   obtain ⟨b, b1, b2, b3, b4, b5⟩ := hin ht (by unfold Heap.ok; rw [e]; trivial)
   rw [b2] at e
   cases b <;> cases e
 ·cases ht : tau is h.nxt i with
  | none =>
   rw [outMap_n ht] at e
   have o' := (hoth ht).1 o
   rw [g2 ht]
   show ρ'.F B = [] ∨ _
   rw [(stay ht e o').2]
   exact p.hr.sep i B N e o'
  | some j =>
   obtain ⟨b, b1, b2, b3, b4, b5⟩ := hin ht o
   have hj := (List.getElem?_eq_some_iff.1 b1).1
   rw [outMap_m ht, cutN_m hj] at e
   rcases q.hr.sep j B N e b4 with x | ⟨r, x⟩
   ·exact .inl x
   ·rw [b5] at x
    cases b <;> cases x
 ·cases ht : tau is h.nxt i with
  | none =>
   rw [g2 ht] at e
   obtain ⟨h0, ⟨a, o, b⟩ | ⟨B, N, C, e1, e2, e3⟩⟩ := p.hr.av i t z n l e
   ·exact ⟨h0, .inl ⟨a, o, by rw [outMap_W ht]; exact b⟩⟩
   ·exact ⟨h0, .inr ⟨B, N, C, by rw [outMap_n ht]; exact e1, by rw [outMap_W ht]; exact e2, e3⟩⟩
  | some j =>
   obtain ⟨b, b1, b2, b3, b4, b5⟩ := hin ht (by unfold Heap.ok; rw [e]; trivial)
   have hj := (List.getElem?_eq_some_iff.1 b1).1
   rw [b2] at e
   cases b with
   | no => cases e
   | row _ _ => cases e
   | map _ _ => cases e
   | arr t' z' n' l' =>
    cases e
    obtain ⟨h0, ⟨a, o, b⟩ | ⟨B, N, C, e1, e2, e3⟩⟩ := q.hr.av j _ _ _ _ b5
    ·exact ⟨h0, .inl ⟨a, o, by rw [outMap_V ht, cutN_V hj]; exact b⟩⟩
    ·exact ⟨h0, .inr ⟨B, N, C, by rw [outMap_m ht, cutN_m hj]; exact e1, by rw [outMap_V ht, cutN_V hj]; exact e2, e3⟩⟩
 ·rw [gn] at hi
  cases ht : tau is h.nxt i with
  | none => have := (hnone ht).2; omega
  | some j =>
   have e2 := hsome ht
   refine g3 ht (List.getElem?_eq_none ?_)
   rcases Nat.lt_or_ge j is.length with x | x
   ·have := sg_lt hap x; omega
   ·rw [sg_ge x] at e2; omega
 ·cases ht : tau is h.nxt i with
  | none => rw [g2 ht] at a; have := p.wf.root i r qq a b; omega
  | some j =>
   cases hb' : bs'[j]? with
   | none => rw [g3 ht hb'] at a; cases a
   | some x =>
    rw [g1 ht hb'] at a
    cases x <;> simp only [MB.ren, MB.ab] at a <;> cases a
    cases b
 ·cases ht : tau is h.nxt i with
  | none =>
   rw [g2 ht] at a
   obtain ⟨s, s1, s2, s3⟩ := p.wf.tip i r qq t a b (by rw [← gt]; exact c)
   refine ⟨s, ?_, s2, s3⟩
   cases hu : tau is h.nxt t with
   | none => rw [g2 hu]; exact s1
   | some l =>
    exfalso
    have htn : t < h.nxt := by
     rcases Nat.lt_or_ge t h.nxt with x | x
     ·exact x
     ·rw [p.wf.fresh t x] at s1; cases s1
    have hl := tau_lt hu htn
    obtain ⟨b', hb'⟩ : ∃ b', bs[l]? = some b' := ⟨_, List.getElem?_eq_getElem (by omega)⟩
    obtain ⟨y1, y2⟩ := hb.at_ (n := h.nxt) hb'
    rw [hsome hu] at y2
    rw [MbAt.noroot (by rw [ren_live]; exact y1) y2 s1] at s2; cases s2
  | some j =>
   cases hb' : bs'[j]? with
   | none => rw [g3 ht hb'] at a; cases a
   | some x =>
    rw [g1 ht hb'] at a
    cases x <;> simp only [MB.ren, MB.ab] at a <;> cases a
    cases b
 ·rw [gt]; exact p.wf.tipr qq (by omega)
 ·rw [gn] at hi
  cases ht : tau is h.nxt i with
  | none => have := (hnone ht).2; omega
  | some j =>
   have e2 := hsome ht
   rw [outMap_m ht]
   refine cutN_n (show ¬ j < bs'.length from fun x => ?_)
   rcases Nat.lt_or_ge j is.length with y | y
   ·have := sg_lt hap y; omega
   ·rw [sg_ge y] at e2; omega
 ·rw [gn] at hi
  cases ht : tau is h.nxt i with
  | none => have := (hnone ht).2; omega
  | some j =>
   have e2 := hsome ht
   rw [outMap_V ht]
   refine if_neg (show ¬ j < bs'.length from fun x => ?_)
   rcases Nat.lt_or_ge j is.length with y | y
   ·have := sg_lt hap y; omega
   ·rw [sg_ge y] at e2; omega
 ·cases ht : tau is h.nxt i with
  | none => rw [g2 ht] at e; rw [outMap_W ht]; exact p.vu i t z n l e m' hm'
  | some j =>
   obtain ⟨b, b1, b2, b3, b4, b5⟩ := hin ht (by unfold Heap.ok; rw [e]; trivial)
   have hj := (List.getElem?_eq_some_iff.1 b1).1
   rw [b2] at e
   cases b with
   | no => cases e
   | row _ _ => cases e
   | map _ _ => cases e
   | arr t' z' n' l' =>
    cases e
    rw [outMap_V ht, cutN_V hj]
    exact q.vu j _ _ _ _ b5 m' hm'
 ·have hlt := Nat.lt_of_lt_of_le hbs.1 p.ext.1.size
  rw [q.ext.2 b ⟨hlt, fun o => open_ o hbs⟩]
  exact p.ext.2 b hbs
 ·cases ht : tau is h.nxt i with
  | none => rw [outMap_n ht] at e; exact p.mine i B N e
  | some j =>
   rw [outMap_m ht] at e
   by_cases hj : j < bs'.length
   ·rw [cutN_m hj] at e; exact mineNew e
   ·rw [cutN_n hj] at e; cases e
 ·have hlt := Nat.lt_of_lt_of_le hbs.1 p.ext.1.size
  show ρ'.F b = _
  rw [q.old b ⟨hlt, fun o => open_ o hbs⟩]
  exact p.old b hbs
 ·simp only [Bool.and_eq_true] at hz
  have h0 : tau is h.nxt 0 = none := by
   cases ht : tau is h.nxt 0 with
   | none => rfl
   | some j =>
    have h1 := bleT hz.2
    have hj := tau_lt ht (by omega)
    rcases sg_in is h.nxt j with x | x
    ·rw [hsome ht] at x
     have := nin_f hz.1.1
     rw [inL_of x] at this; cases this
    ·rw [hsome ht] at x; omega
  rw [g2 h0] at e; exact ⟨_, _, _, e⟩
 ·obtain ⟨hj, e2⟩ := inMap_m ej
  obtain ⟨b', hbj⟩ : ∃ b, bs[j]? = some b := ⟨_, List.getElem?_eq_getElem hj⟩
  obtain ⟨y1, y2⟩ := hb.at_ (n := h.nxt) hbj
  exact hno _ M e2 (MbAt.okk (by rw [ren_live]; exact y1) y2)
 ·cases ht : tau is h.nxt i with
  | none => rw [outMap_n ht] at e; exact .inr ⟨i, N, e, (hoth ht).1 o⟩
  | some j =>
   obtain ⟨b, b1, b2, b3, b4, b5⟩ := hin ht o
   have hj := (List.getElem?_eq_some_iff.1 b1).1
   rw [outMap_m ht, cutN_m hj] at e
   rcases Nat.lt_or_ge B w.heap.size with x | x
   ·right
    have hop : opnOf (inMap ρ is h.nxt bs.length) B := Classical.byContradiction fun hn => q.mine j B N e ⟨x, hn⟩
    obtain ⟨j2, M, ej⟩ := hop
    obtain ⟨hj2, e2⟩ := inMap_m ej
    obtain ⟨b', hbj⟩ : ∃ b, bs[j2]? = some b := ⟨_, List.getElem?_eq_getElem hj2⟩
    obtain ⟨y1, y2⟩ := hb.at_ (n := h.nxt) hbj
    exact ⟨_, M, e2, MbAt.okk (by rw [ren_live]; exact y1) y2⟩
   ·exact .inl x
 ·obtain ⟨hj, e2⟩ := inMap_m ej
  obtain ⟨b', hbj⟩ : ∃ b, bs[j]? = some b := ⟨_, List.getElem?_eq_getElem hj⟩
  obtain ⟨y1, y2⟩ := hb.at_ (n := h.nxt) hbj
  exact hno _ M e2 (MbAt.okk (by rw [ren_live]; exact y1) y2)
 ·simp only [Bool.and_eq_true] at hz
  have h0 : tau is h.nxt 1 = none := by
   cases ht : tau is h.nxt 1 with
   | none => rfl
   | some j =>
    have h1 := bleT hz.2
    have hj := tau_lt ht (by omega)
    rcases sg_in is h.nxt j with x | x
    ·rw [hsome ht] at x
     have := nin_f hz.1.2
     rw [inL_of x] at this; cases this
    ·rw [hsome ht] at x; omega
  rw [outMap_n h0]; exact e
 ·have hb1 := p.hr.F_lt e
  refine q.ext.2 b ⟨hb1, fun ⟨j, M, ej⟩ => ?_⟩
  obtain ⟨hj, e2⟩ := inMap_m ej
  obtain ⟨b', hbj⟩ : ∃ b, bs[j]? = some b := ⟨_, List.getElem?_eq_getElem hj⟩
  obtain ⟨y1, y2⟩ := hb.at_ (n := h.nxt) hbj
  exact e (p.hr.F_row e2 (MbAt.okk (by rw [ren_live]; exact y1) y2) (fun r => MbAt.nogl (by rw [ren_live]; exact y1) y2))
 ·simp only [Bool.and_eq_true] at hz
  have h0 : tau is h.nxt 0 = none := by
   cases ht : tau is h.nxt 0 with
   | none => rfl
   | some j =>
    have h1 := bleT hz.2
    have hj := tau_lt ht (by omega)
    rcases sg_in is h.nxt j with x | x
    ·rw [hsome ht] at x
     have := nin_f hz.1.1
     rw [inL_of x] at this; cases this
    ·rw [hsome ht] at x; omega
  rw [outMap_W h0]; exact e
end
end Go.Px
end
section
namespace Go.Px
def hasP (j : Nat) : List AV → Bool
 | [] => false
 | .ptr i _ :: r => (match Nat.beq i j with | true => true | false => hasP j r)
 | _ :: r => hasP j r
def hasM (j : Nat) : List AV → Bool
 | [] => false
 | .mp i :: r => (match Nat.beq i j with | true => true | false => hasM j r)
 | _ :: r => hasM j r
theorem hasM_mem {j : Nat} : ∀ {l : List AV}, hasM j l = true → AV.mp j ∈ l
 | [], h => by cases h
 | a :: r, h => by
  have step : hasM j r = true → AV.mp j ∈ a :: r := fun q => List.mem_cons_of_mem _ (hasM_mem q)
  cases a <;> simp only [hasM] at h <;> first | exact step h | skip
  split at h
  ·rename_i q; rw [← beqT q]; exact List.mem_cons_self
  ·exact step h
theorem hasP_mem {j : Nat} : ∀ {l : List AV}, hasP j l = true → ∃ o, AV.ptr j o ∈ l
 | [], h => by cases h
 | a :: r, h => by
  have step : hasP j r = true → ∃ o, AV.ptr j o ∈ a :: r := fun q => by
   obtain ⟨o, ho⟩ := hasP_mem q
   exact ⟨o, List.mem_cons_of_mem _ ho⟩
  cases a <;> simp only [hasP] at h <;> first | exact step h | skip
  split at h
  ·rename_i q; rw [← beqT q]; exact ⟨_, List.mem_cons_self⟩
  ·exact step h
def evidB : List AV → List MB → Nat → Bool
 | _, [], _ => true
 | acc, .row _ cs :: r, j => (match hasP j acc with | true => evidB (cs ++ acc) r (j + 1) | false => false)
 | acc, .map _ _ :: r, j => (match hasM j acc with | true => evidB acc r (j + 1) | false => false)
 | acc, _ :: r, j => evidB acc r (j + 1)
structure KM (c : Ctx) (f : FuncId) (bs : List MB) (args : List AV) (v : AV) (bs' : List MB) : Prop where
 le : bs.length ≤ bs'.length
 lo : lowM bs.length bs = true
 la : lowsB bs.length args = true
 lm : lowM bs'.length bs' = true
 lv : lowB bs'.length v = true
 ev : evidB args bs 0 = true
 run : ∀ (ρ : Map) (w : World) (A gx : List Value), PI ⟨c, w, ρ.F, opnOf ρ, none, none, [], ptrs bs 0, gx⟩ ρ (hq bs.length (bs.map MB.ab)) w → VRs ρ args A →
  ∃ nx w1, (callFunc f A.toArray).run c.P w = .ok nx w1 ∧ NextOk c.P (fun z w' => ∃ ρ', PI ⟨c, w, ρ.F, opnOf ρ, none, none, [], ptrs bs 0, gx⟩ ρ' (hq bs'.length (bs'.map MB.ab)) w' ∧ VR ρ' v z) nx w1
/-! ## out of a body -/
def MbsAt (h : Heap) : List MB → Nat → Prop
 | [], _ => True
 | b :: r, i => MbAt h i b ∧ MbsAt h r (i + 1)
theorem MbsAt.at_ {h : Heap} : ∀ {bs : List MB} {n j : Nat} {b : MB}, MbsAt h bs n → bs[j]? = some b → MbAt h (n + j) b
 | [], n, j, b, _, e => by simp at e
 | x :: r, n, 0, b, ⟨a, _⟩, e => by simp at e; subst e; exact a
 | x :: r, n, j + 1, b, ⟨_, a⟩, e => by
  have := a.at_ (j := j) (b := b) (by simpa using e)
  rwa [show n + 1 + j = n + (j + 1) by omega] at this
def FinM (c : Ctx) (res : List ResultVar) (v : AV) (bs' : List MB) : Post := fun x s => (x = .normal ∨ x = .ret) ∧ ∃ h' vs, leave s.h s.m = some h' ∧ resA c h' s.e res = some vs ∧ one vs = v ∧ MbsAt h' bs' 0 ∧ Nat.ble bs'.length h'.nxt = true
theorem low_ptrs : ∀ {bs : List MB} {n k : Nat}, n + bs.length ≤ k → lowsB k (ptrs bs n) = true
 | [], n, k, _ => rfl
 | x :: r, n, k, h => by
  have ih := low_ptrs (bs := r) (n := n + 1) (k := k) (by simp only [List.length_cons] at h; omega)
  cases x <;> simp only [ptrs] <;> first | exact ih | skip
  all_goals
   simp only [lowsB, lowB]
   rw [Nat.ble_eq_true_of_le (by simp only [List.length_cons] at h; omega)]; exact ih
theorem PI.canon {X : Cx} {ρ : Map} {h : Heap} {w : World} (p : PI X ρ h w) (hg : ∀ i r, X.c.g0.get i ≠ .gl r) {bs : List MB} (hb : MbsAt h bs 0) (hlow : lowM bs.length bs = true) (hG : lowsB bs.length X.gv = true) (hz : X.g = none) :
  PI X (cutN ρ bs.length) (hq bs.length (bs.map MB.ab)) w := by
 have hcut : ∀ i q, cutN ρ bs.length i = some q → i < bs.length ∧ ρ i = some q := fun i q e => by
  by_cases hi : i < bs.length
  ·rw [cutN_m hi] at e; exact ⟨hi, e⟩
  ·rw [cutN_n hi] at e; cases e
 have hat : ∀ {i b}, bs[i]? = some b → MbAt h i b := fun {i b} e => by have := hb.at_ e; rwa [Nat.zero_add] at this
 refine ⟨⟨fun i B N e => p.hr.lt _ B N (hcut i _ e).2, fun i B N e q => ?_, fun i j B N M hij e1 e2 k1 k2 => ?_, fun i r q => ?_, p.hr.fz, fun i B N e q => ?_, fun i t z n l q => ?_⟩, hq_wf rfl, ⟨fun i hi => cutN_n (show ¬ i < bs.length from Nat.not_lt.2 hi), fun i r q => absurd q (hg i r)⟩, fun i hi n => if_neg (show ¬ i < bs.length from Nat.not_lt.2 hi), fun i t z n l q m' hm' => ?_, p.ext, fun i B N e => p.mine i B N (hcut i _ e).2, p.sub, p.old, lows_ok _ hG p.keep, fun G e => by rw [hz] at e; cases e⟩
 ·obtain ⟨hi, e'⟩ := hcut i _ e
  obtain ⟨x, x1, x2, x3⟩ := hq_okm q
  have y2 := hat x1
  have hr := p.hr.ok _ B N e' (MbAt.okk x3 y2)
  rw [x2]
  cases x with
  | no => trivial
  | arr t z n l =>
   have y2 : h.get i = .arr t z n l := y2
   rw [y2] at hr; exact hr
  | map es c =>
   have y2 : h.get i = .map es c := y2
   rw [y2] at hr
   obtain ⟨ES, e1, e2⟩ := hr
   exact ⟨ES, e1, MapR.dat (ρ := ρ) (σ := cutN ρ bs.length) (show Sub ρ.d (cutN ρ bs.length).d from Sub.refl ρ.d) (lowM_at hlow x1) e2⟩
  | row t cs =>
   obtain ⟨r, r1, r2, r3, r4, r5⟩ := y2
   rw [r1] at hr
   have hr : RowOk ρ r B N w := hr
   refine ⟨by rw [← r2]; exact hr.1, by rw [← r3]; exact hr.2.1, hr.2.2.1, fun j hj => ?_⟩
   have hj : j < cs.length := hj
   obtain ⟨v, v1, v2⟩ := hr.2.2.2 j (by omega)
   refine ⟨v, v1, ?_⟩
   rw [row_at_i hj]
   have e5 : r.get j = cs.getD j .bad := by rw [← r5, Row.read_get r r.n j (by omega)]
   rw [e5] at v2
   exact low_ok _ (lows_at (lowM_at hlow x1) hj) v2
 ·obtain ⟨x, x1, x2, x3⟩ := hq_okm k1
  obtain ⟨y, y1, y2, y3⟩ := hq_okm k2
  obtain ⟨r, s, q, a, b, c, _⟩ := p.hr.inj _ _ B N M hij (hcut i _ e1).2 (hcut j _ e2).2 (MbAt.okk x3 (hat x1)) (MbAt.okk y3 (hat y1))
  rw [MbAt.noroot x3 (hat x1) a] at c; cases c
 ·obtain ⟨x, x1, x2⟩ := hq_mb q (by simp)
  cases x <;> simp only [MB.ab] at x2 <;> cases x2
 ·obtain ⟨x, x1, x2, x3⟩ := hq_okm q
  exact .inl (p.hr.F_row (hcut i _ e).2 (MbAt.okk x3 (hat x1)) (fun r => MbAt.nogl x3 (hat x1)))
 ·obtain ⟨x, x1, x2⟩ := hq_mb q (by simp)
  cases x <;> simp only [MB.ab] at x2 <;> cases x2
  have y2 := hat x1
  have hi := (List.getElem?_eq_some_iff.1 x1).1
  obtain ⟨h0, ⟨a, o, b⟩ | ⟨B, N, C, e1, e2, e3⟩⟩ := p.hr.av _ t z n l y2
  ·exact ⟨h0, .inl ⟨a, o, (cutN_V hi _).trans b⟩⟩
  ·exact ⟨h0, .inr ⟨B, N, C, (cutN_m hi).trans e1, (cutN_V hi _).trans e2, e3⟩⟩
 ·obtain ⟨x, x1, x2⟩ := hq_mb q (by simp)
  cases x <;> simp only [MB.ab] at x2 <;> cases x2
  exact (cutN_V (List.getElem?_eq_some_iff.1 x1).1 _).trans (p.vu _ t z n l (hat x1) m' hm')
theorem KM.of {c : Ctx} (k : CtxOk c) (hg0 : ∀ i r, c.g0.get i ≠ .gl r) {f : FuncId} {fn : Func} {body : Code} (hf : c.P.funcs[f]? = some fn) (hb : fn.body = some body) {bs : List MB} {args : List AV} {v : AV} {bs' : List MB} {N : Nat} {ab : List AB} {gv : List AV} (hN : bs.length = N) (hA : bs.map MB.ab = ab) (hP : ptrs bs 0 = gv)
  (hlen : args.length ≤ fn.ntmps) (le : Nat.ble bs.length bs'.length = true) (lo : lowM bs.length bs = true) (la : lowsB bs.length args = true) (lm : lowM bs'.length bs' = true) (lv : lowB bs'.length v = true) (ev : evidB args bs 0 = true)
  (H : ∀ w F opn gx, Go ⟨c, w, F, opn, none, none, [], gv, gx⟩ fn.ntmps none [.code body] (argsL args 0) (hq N ab) [] (FinM c fn.results.toList v bs')) : KM c f bs args v bs' := by
 subst hN; subst hA; subst hP
 refine ⟨bleT le, lo, la, lm, lv, ev, fun ρ w A gx hpi hA => ?_⟩
 have hnm : fn.name ≠ "runtime.NumGoroutine" := by simpa using k.names f fn hf
 refine ⟨.enter f A.toArray, w, by simp [callFunc, hf, hnm, hb, Sem.run], ?_⟩
 refine callsIn_of_wp_marks hf hb trivial ?_
 have h := (H w ρ.F (opnOf ρ) gx).run (T.put und args (env0 und fn.ntmps) 0) (argsL_has args _ 0)
 have ht : Tri ⟨c, w, ρ.F, opnOf ρ, none, none, [], ptrs bs 0, gx⟩ fn.ntmps none body ⟨T.put und args (env0 und fn.ntmps) 0, hq bs.length (bs.map MB.ab), []⟩ (FinM c fn.results.toList v bs') := h
 refine ht none ρ w _ _ rfl hpi (args_er hA hlen) ⟨[], rfl, rfl⟩ fun x s' a' w' ρ' ⟨hx, h', vs, q1, q2, q3, q4, q5⟩ g1 g2 g3 g4 => ?_
 have hfin : LeavesInM Fence.wide 0 c.P fn a'.tmps (EndR fun z w' => ∃ ρ', PI ⟨c, w, ρ.F, opnOf ρ, none, none, [], ptrs bs 0, gx⟩ ρ' (hq bs'.length (bs'.map MB.ab)) w' ∧ VR ρ' v z) a'.defers .returning w' := by
  refine leave_ok g2.hr g2.wf (g4.nil rfl) q1 fun w2 g => ?_
  have g5 := g2.good g (ArrKeep.leave q1)
  obtain ⟨z, z1, z2⟩ := results_ok k g5.hr g3 q2
  rw [q3] at z2
  exact ⟨z, z1, _, g5.canon hg0 q4 lm (low_ptrs (by have := bleT le; omega)) rfl, low_ok v lv z2⟩
 rcases hx with rfl | rfl
 ·exact hfin
 ·exact hfin
theorem Go.retM {X : Cx} {sz : Nat} {rd : Option Nat} {k : List It} {L : List (Nat × AV)} {h : Heap} {m : List Nat} {c : Ctx} {res : List ResultVar} {vs : List AV} {v : AV} {bs' : List MB} {h' : Heap} (hl : leave h m = some h') (hr : resL L res = some vs) (hv : one vs = v) (hb : MbsAt h' bs' 0) (hn : Nat.ble bs'.length h'.nxt = true) : Go X sz rd (.code .ret :: k) L h m (FinM c res v bs') :=
 Go.ret fun e he => ⟨.inr rfl, h', vs, hl, resL_ok he hr, hv, hb, hn⟩
/-! ## at a call -/
def dropO (t : Nat) : List (Nat × AV) → Option (List (Nat × AV))
 | [] => some []
 | (s, v) :: r => (match dropO t r with | some r' => (match Nat.beq t s with | true => some r' | false => some ((s, v) :: r')) | none => none)
def cleanO (A R : List Nat) : List (Nat × AV) → Option (List (Nat × AV))
 | [] => some []
 | (t, v) :: r => (match cleanO A R r with
  | some r' => (match dropO t r' with
   | some r'' => (match okB A R v with | true => some ((t, v) :: r'') | false => some r'')
   | none => none)
  | none => none)
theorem drop_lk {t : Nat} : ∀ {L L' : List (Nat × AV)}, dropO t L = some L' → lkO L' t = none ∧ ∀ s, s ≠ t → lkO L' s = lkO L s
 | [], L', h => by cases h; exact ⟨rfl, fun _ _ => rfl⟩
 | (s, v) :: r, L', h => by
  simp only [dropO] at h
  split at h
  ·rename_i r' hr
   obtain ⟨i1, i2⟩ := drop_lk hr
   split at h
   ·rename_i e
    cases h
    have e := beqT e
    subst e
    refine ⟨i1, fun s hs => ?_⟩
    rw [i2 s hs]
    conv => rhs; unfold lkO
    rw [beqF hs]
   ·rename_i e
    cases h
    have e := beqN e
    constructor
    ·unfold lkO; rw [beqF e]; exact i1
    ·intro u hu
     unfold lkO
     rw [i2 u hu]
  ·cases h
theorem clean_lk {A R : List Nat} : ∀ {L L' : List (Nat × AV)}, cleanO A R L = some L' → ∀ t v, lkO L' t = some v → lkO L t = some v ∧ okB A R v = true
 | [], L', h, t, v, e => by cases h; cases e
 | (s, u) :: r, L', h, t, v, e => by
  simp only [cleanO] at h
  split at h
  ·rename_i r' hr
   split at h
   ·rename_i r'' hd
    obtain ⟨d1, d2⟩ := drop_lk hd
    have ih := clean_lk hr
    have key : lkO r'' t = some v → lkO ((s, u) :: r) t = some v ∧ okB A R v = true := fun q => by
     have hts : t ≠ s := fun x => by subst x; rw [d1] at q; cases q
     rw [d2 t hts] at q
     unfold lkO
     rw [beqF hts]
     exact ih t v q
    split at h
    ·rename_i hu
     cases h
     unfold lkO at e
     split at e
     ·rename_i ht
      cases e
      unfold lkO
      rw [ht]
      exact ⟨rfl, hu⟩
     ·exact key e
    ·cases h; exact key e
   ·cases h
  ·cases h
def wkA (h : Heap) : List AV → List AV → Prop
 | [], [] => True
 | a :: l, b :: m => (a = b ∨ False) ∧ wkA h l m
 | _, _ => False
theorem wk_ok {X : Cx} {ρ : Map} {h : Heap} {w : World} (p : PI X ρ h w) : ∀ {l m : List AV} {L : List Value}, wkA h l m → VRs ρ l L → VRs ρ m L
 | [], [], L, _, h => h
 | [], _ :: _, L, h, _ => h.elim
 | _ :: _, [], L, h, _ => h.elim
 | a :: l, b :: m, L, ⟨h1, h2⟩, h => by
  simp only [VRs] at h ⊢
  obtain ⟨x, r, e1, e2, e3⟩ := h
  refine ⟨x, r, ?_, wk_ok p h2 e2, e3⟩
  rcases h1 with rfl | q
  ·exact e1
  ·exact q.elim
theorem evid_ok {X : Cx} {ρ : Map} {h : Heap} {w : World} (p : PI X ρ h w) {is : List Nat} {all : List MB} (hb : BlksAt h (sg is h.nxt) is all) (hlow : lowM all.length all = true) : ∀ {bs : List MB} {acc : List AV} {n : Nat}, (∀ j b, bs[j]? = some b → all[n + j]? = some b) → evidB acc bs n = true → (∀ a ∈ acc, ∃ x, VR (inMap ρ is h.nxt all.length) a x) → ∃ gx, VRs (inMap ρ is h.nxt all.length) (ptrs bs n) gx
 | [], acc, n, _, _, _ => ⟨[], by simp [ptrs, VRs]⟩
 | b :: bs, acc, n, hall, he, ha => by
  have hall' : ∀ j b, bs[j]? = some b → all[n + 1 + j]? = some b := fun j b e => by
   have := hall (j + 1) b (by simpa using e)
   rwa [show n + (j + 1) = n + 1 + j by omega] at this
  have h0 := hall 0 b rfl
  rw [Nat.add_zero] at h0
  cases b with
  | no => simp only [evidB] at he; simp only [ptrs]; exact evid_ok p hb hlow hall' he ha
  | arr t z k l => simp only [evidB] at he; simp only [ptrs]; exact evid_ok p hb hlow hall' he ha
  | map es c =>
   simp only [evidB] at he
   split at he
   ·rename_i hp
    obtain ⟨gx, hgx⟩ := evid_ok p hb hlow hall' he ha
    obtain ⟨x, hx⟩ := ha _ (hasM_mem hp)
    simp only [ptrs]
    refine ⟨x :: gx, ?_⟩
    simp only [VRs]
    exact ⟨_, _, hx, hgx, rfl⟩
   ·cases he
  | row t cs =>
   simp only [evidB] at he
   split at he
   ·rename_i hp
    obtain ⟨o, ho⟩ := hasP_mem hp
    obtain ⟨x, hx⟩ := ha _ ho
    simp only [VR] at hx
    obtain ⟨B, N, c1, c2⟩ := hx
    obtain ⟨hn, c3⟩ := inMap_m c1
    obtain ⟨_, r, r1, r2, r3, r4, r5⟩ := hb.at_ (n := h.nxt) h0
    have hok : h.ok (sg is h.nxt n) := by unfold Heap.ok; rw [r1]; simp only []; rw [Heap.row_of r1, r4]; rfl
    have hr := p.hr.ok _ B N c3 hok
    rw [r1] at hr
    have hr : RowOk ρ r B N w := hr
    rw [rens_length] at r3
    obtain ⟨gx, hgx⟩ := evid_ok p hb hlow hall' he (fun a hm => by
     rcases List.mem_append.1 hm with hm | hm
     ·obtain ⟨j, hj, rfl⟩ := List.getElem_of_mem hm
      obtain ⟨v, v1, v2⟩ := hr.2.2.2 j (by omega)
      have e5 : r.get j = ren (sg is h.nxt) (cs.getD j .bad) := by
       rw [← rens_get, ← r5, Row.read_get r r.n j (by omega)]
      rw [e5] at v2
      refine ⟨v, ?_⟩
      have hlw : lowsB all.length cs = true := lowM_at hlow h0
      have := low_ok _ (lows_at hlw hj) ((vr_ren _ _).1 v2)
      rwa [List.getD_eq_getElem?_getD, List.getElem?_eq_getElem hj] at this
     ·exact ha a hm)
    simp only [ptrs]
    refine ⟨.pointer (some ⟨B, 0, none⟩) :: gx, ?_⟩
    simp only [VRs, VR]
    exact ⟨_, _, ⟨B, N, c1, rfl⟩, hgx, rfl⟩
   ·cases he
theorem vrs_ex {ρ : Map} {l : List AV} {L : List Value} (h : VRs ρ l L) : ∀ a ∈ l, ∃ x, VR ρ a x := fun a ha => by
 obtain ⟨i, hi⟩ := List.getElem?_of_mem ha
 have hl := VRs.iff.1 h
 have hlt : i < L.length := by rw [← hl.1]; exact (List.getElem?_eq_some_iff.1 hi).1
 exact ⟨_, hl.2 i _ _ hi (List.getElem?_eq_getElem hlt)⟩
def nins2 (A R : List Nat) : List Nat → Bool
 | [] => true
 | d :: m => (match nin2 A R d with | true => nins2 A R m | false => false)
section
variable {X : Cx} {tb : List (Nat × TE)} (E : Env X.c tb) {sz : Nat} {rd : Option Nat} {all : Array Oper} {o : Oper} {rest : List Oper} {k : List It} {L : List (Nat × AV)} {h : Heap} {m : List Nat} {Q : Post}
include E
theorem Ops.callM (is : List Nat) (N : Nat) {cl : Call} {f : Operand} {g : FuncId} {first cap vs args : List AV} {v v' : AV} {bs bs' : List MB} {ab : List AB} {L' : List (Nat × AV)} (hw : Want all L o true) (ho : o.op = .call cl) (hc : cl.callee = .value f) (hfv : evL L f = some (.fn (.func g) first cap))
  (hv : evsL L cl.args.toList = some vs) (hk : KM X.c g bs args v bs') (hN : h.nxt = N) (hwk : wkA h (first ++ vs ++ cap) (rens (sg is N) args)) (hap : apart N is = true) (hb : BlksAt h (sg is N) is bs) (hI : HOk is (arrI is bs) (rowI is bs) h) (hL : cleanO (arrI is bs) (rowI is bs) L = some L') (hm : nins2 (arrI is bs) (rowI is bs) m = true)
  (hrd : (match rd with | some l => nin2 (arrI is bs) (rowI is bs) l | none => true) = true) (hv' : ren (sg is N) v = v') (hab : bs'.map (fun b => (b.ren (sg is N)).ab) = ab) {d : Nat} (hd : o.dst = some d) (hs : Nat.ble (d + 1) sz = true) (n : Ops X sz rd all rest k ((d, v') :: L') (mixN N h is ab) m Q)
  (hG : oksB (arrI is bs) (rowI is bs) X.gv = true := by rfl) (hgz : X.g = none ∨ (nin is 0 && nin is 1 && Nat.ble 2 N) = true := by first | exact .inl rfl | exact .inr rfl) : Ops X sz rd all (o :: rest) k L h m Q := ⟨fun e0 he => by
 subst hN; subst hv'; subst hab
 refine TriOps.cons (hw e0 he) (K := fun s' => RunK X sz rd k Q .normal s') ?_
 intro ro ρ w a next Q' h1 p h3 h4 h5
 refine ⟨fun _ _ => trivial, ?_⟩
 rw [show (wideR ro).round = ro from rfl, Oper.semAt_eq ro a.eval o (by rw [ho]; intro d q; cases q)]
 have hfv' := ev_ok h3 f
 rw [he.ev hfv] at hfv'
 simp only [VR, FR] at hfv'
 obtain ⟨f', F, C, e1, e2, e3, e4⟩ := hfv'
 subst e1
 have hargs := evs_ok h3 cl.args.toList
 rw [he.evs hv] at hargs
 have hA := wk_ok p hwk (VRs.append (VRs.append e2 hargs) e3)
 have hA2 : VRs (inMap ρ is h.nxt bs.length) args _ := lows_ok args hk.la ((vrs_ren _ _).1 hA)
 obtain ⟨gx, hgx⟩ := evid_ok p hb hk.lo (bs := bs) (acc := args) (n := 0) (fun j b e => by rw [Nat.zero_add]; exact e) hk.ev (vrs_ex hA2)
 obtain ⟨nx, w1, q1, q2⟩ := hk.run (inMap ρ is h.nxt bs.length) w _ gx (p.enter E.g hap hb hk.lo hgx) hA2
 have hrun : (execOp a.eval o).run X.c.P w = .ok nx w1 := by
  rw [← q1]
  simp only [execOp, ho, resolve, hc, e4, Deferred.ofValue, Sem.run_bind, Sem.run_pure, Result.andThen_ok, invoke]
  congr 2
  apply Array.ext'; simp
 rw [hrun]
 refine uponIn_of_next q2 fun z w' ⟨ρ', pi', hz⟩ => ?_
 obtain ⟨pp, hs'⟩ := p.back E.g hap hb hgx hI hG hgz hk.le hk.lm pi'
 obtain ⟨e', he', er'⟩ := known_env (σ := outMap ρ ρ' is h.nxt bs'.length) (L := L') (tm := a.tmps) (sz := sz) h3.1 (fun t u q => by
  obtain ⟨c1, c2⟩ := clean_lk hL t u q
  have := h3.2 t
  rw [he t u c1] at this
  exact okB_ok hs' u c2 this)
 refine h5 (ren (sg is h.nxt) v) ⟨e', _, m⟩ z w' _ ⟨e'.set und d _, by rw [hd]; exact setD_some hs, n.run _ (he'.set d _)⟩ ?_ pp er' ?_ (outMap_ren hap hk.lv hz)
 ·cases rd with
  | none => exact h1
  | some r =>
   obtain ⟨B, N, x1, x2⟩ := h1
   exact ⟨B, N, hs'.m r _ (nin2_f hrd).1 (nin2_f hrd).2 x1, x2⟩
 ·have hmr : ∀ {m : List Nat} {D : List Deferred}, nins2 (arrI is bs) (rowI is bs) m = true → MR ρ m D → MR (outMap ρ ρ' is h.nxt bs'.length) m D := by
   intro m
   induction m with
   | nil => intro D _ q; exact q
   | cons d m ih =>
    intro D hh q
    simp only [nins2] at hh
    split at hh
    ·rename_i hd
     obtain ⟨B, N, r, x1, x2, x3⟩ := q
     exact ⟨B, N, r, hs'.m d _ (nin2_f hd).1 (nin2_f hd).2 x1, ih hh x2, x3⟩
    ·cases hh
  obtain ⟨D1, h5, h6⟩ := h4
  exact ⟨D1, hmr hm h5, h6⟩⟩
end
end Go.Px
end
section
namespace Go.Px
def GhW (X : Cx) (ρ : Map) (h : Heap) (w : World) (S : Nat → Prop) (Fo : Nat → List Value) : Prop := ∀ G, X.g = some G → ∀ t z n l, h.get 0 = .arr t z n l → G.J z S Fo w ∧ (∀ b, S b → b < w.heap.size) ∧ (∀ i B N, ρ i = some (B, N) → h.ok i → ¬ S B ∧ G.n0 ≤ B) ∧ ((∀ b, S b ∨ b < G.n0 → ρ.F b = Fo b) ∧ ∀ (b i : Nat) (x : Value), (Fo b)[i]? = some x → (ρ.F b)[i]? = some x) ∧ G.n0 ≤ w.heap.size ∧ S G.blk ∧ (∃ N, ρ 1 = some (G.blk, N)) ∧ (∀ b, S b → ¬ X.shut b) ∧ ∃ a, ρ.V 0 0 = some (.slice a 0 0)
theorem GhP.wit {X : Cx} {ρ : Map} {h : Heap} {w : World} (p : GhP X ρ h w) : ∃ S Fo, GhW X ρ h w S Fo ∧ (∀ b, S b → b < w.heap.size) ∧ ∀ b, S b → ¬ X.shut b := by
 cases hG : X.g with
 | none => exact ⟨fun _ => False, fun _ => [], (fun G e => by rw [hG] at e; cases e), fun _ q => q.elim, fun _ q => q.elim⟩
 | some G =>
  by_cases ha : ∃ t z n l, h.get 0 = .arr t z n l
  ·obtain ⟨t, z, n, l, e⟩ := ha
   obtain ⟨S, Fo, s⟩ := p G hG t z n l e
   refine ⟨S, Fo, fun G' e1 t' z' n' l' e2 => ?_, s.2.1, s.2.2.2.2.2.2.2.1⟩
   rw [hG] at e1; cases e1
   rw [e] at e2; cases e2
   exact s
  ·exact ⟨fun _ => False, fun _ => [], (fun G' e1 t z n l e2 => absurd ⟨t, z, n, l, e2⟩ ha), fun _ q => q.elim, fun _ q => q.elim⟩
theorem GhW.gh {X : Cx} {ρ : Map} {h : Heap} {w : World} {S : Nat → Prop} {Fo : Nat → List Value} (p : GhW X ρ h w S Fo) : GhP X ρ h w := fun G hG t z n l e => ⟨S, Fo, p G hG t z n l e⟩
theorem PI.base {X : Cx} {ρ : Map} {h : Heap} {w : World} (p : PI X ρ h w) {S : Nat → Prop} {Fo : Nat → List Value} (g : GhW X ρ h w S Fo) (ro : Option Nat) (hid : List Nat) (gx : List Value) (gv : List AV) (hk : VRs ρ gv gx) {F : Nat → List Value} (hF : ∀ (b j : Nat) (x : Value), (ρ.F b)[j]? = some x → (F b)[j]? = some x) (hz : FzW F w) (hsep : ∀ i B N, ρ i = some (B, N) → F B = ρ.F B) (hS : ∀ b, S b → F b = ρ.F b) (hn : ∀ G, X.g = some G → ∀ b, b < G.n0 → F b = ρ.F b) :
  PI ⟨X.c, w, F, fun b => (∃ i N, ρ i = some (b, N)) ∨ S b, X.g, ro, hid, gv, gx⟩ ⟨ρ.m, F, ρ.V⟩ h w := by
 have hs : Sub ρ ⟨ρ.m, F, ρ.V⟩ := ⟨fun _ _ e => e, hF, fun _ _ _ e => e⟩
 refine ⟨⟨p.hr.lt, fun i B N e q => (p.hr.ok i B N e q).mono hs, p.hr.inj, p.hr.gl, hz, fun i B N e q => ?_, fun i t z n l q => (p.hr.av i t z n l q).mono hs⟩, p.wf, p.fr, p.vf, p.vu, ⟨Same.refl w, fun _ _ => rfl⟩, fun i B N e hsh => hsh.2 (.inl ⟨i, N, e⟩), fun _ _ _ e => e, fun _ _ => rfl, hk.mono hs, fun G hG t z n l e => ?_⟩
 ·rcases p.hr.sep i B N e q with a | ⟨r, a⟩
  ·exact .inl ((hsep i B N e).trans a)
  ·exact .inr ⟨r, a⟩
 ·obtain ⟨s1, s2, s3, s4, s5, s6, s7, s8⟩ := g G hG t z n l e
  exact ⟨S, Fo, s1, s2, s3, ⟨fun b q => (q.elim (hS b) (hn G hG b)).trans (s4.1 b q), fun b i x e => hF b i x (s4.2 b i x e)⟩, s5, s6, s7, (fun b q hsh => hsh.2 (.inr q)), s8.2⟩
theorem PI.rebase {X : Cx} {ρ : Map} {h : Heap} {w : World} (p : PI X ρ h w) {S : Nat → Prop} (hS : ∀ b, S b → ¬ X.shut b) {ro : Option Nat} {hid : List Nat} {gx : List Value} {gv : List AV} {F : Nat → List Value} (hF : ∀ (b j : Nat) (x : Value), (ρ.F b)[j]? = some x → (F b)[j]? = some x) (hold : ∀ b, X.shut b → F b = ρ.F b) {ρ' : Map} {h' : Heap} {w' : World}
  (q : PI ⟨X.c, w, F, fun b => (∃ i N, ρ i = some (b, N)) ∨ S b, X.g, ro, hid, gv, gx⟩ ρ' h' w') (hk : VRs ρ' X.gv X.gx) : PI X ρ' h' w' := by
 have key : ∀ b, X.shut b → Cx.shut ⟨X.c, w, F, fun b => (∃ i N, ρ i = some (b, N)) ∨ S b, X.g, ro, hid, gv, gx⟩ b := fun b hb =>
  ⟨Nat.lt_of_lt_of_le hb.1 p.ext.1.size, fun a => a.elim (fun ⟨i, N, e⟩ => p.mine i b N e hb) (fun a => hS b a hb)⟩
 refine ⟨q.hr, q.wf, q.fr, q.vf, q.vu, ⟨p.ext.1.trans q.ext.1, fun b hb => (q.ext.2 b (key b hb)).trans (p.ext.2 b hb)⟩, fun i B N e hb => q.mine i B N e (key B hb), fun b j x e => q.sub b j x (hF b j x (p.sub b j x e)), fun b hb => ((q.old b (key b hb)).trans (hold b hb)).trans (p.old b hb), hk, fun G hG t z n l e => ?_⟩
 obtain ⟨S', Fo, s1, s2, s3, s4, s5, s6, s7, s8⟩ := q.gh G hG t z n l e
 exact ⟨S', Fo, s1, s2, s3, s4, s5, s6, s7, (fun b a hb => s8.1 b a (key b hb)), s8.2⟩
structure KIt (c : Ctx) (g : FuncId) (cap : List AV) (items : List (List AV)) : Prop where
 fn : ∃ fn, c.P.funcs[g]? = some fn ∧ fn.body.isSome = true
 run : ∀ (G : Gho c.P) (w : World) (C : List Value) (S : Nat → Prop) (F : Nat → List Value), G.items = items → G.n0 = w.heap.size → FzW F w → VRs (fzm F) cap C → S G.blk → G.J 0 S F w → (∀ b, S b → b < w.heap.size) →
  ∃ nx w1, (callFunc g (Value.func (.yield G.blk) #[] #[] :: C).toArray).run c.P w = .ok nx w1 ∧ NextOk c.P (fun z w' => Same w w' ∧ (∀ b, b < w.heap.size → ¬ S b → w'.heap[b]? = w.heap[b]?) ∧
   ∃ k S' F', (k = items.length ∨ k = items.length + 1) ∧ G.J k S' F' w') nx w1
section
variable {X : Cx} {tb : List (Nat × TE)} (E : Env X.c tb) {sz : Nat} {rd : Option Nat} {all : Array Oper} {o : Oper} {rest : List Oper} {k : List It} {L : List (Nat × AV)} {h : Heap} {m : List Nat} {Q : Post}
include E
end
end Go.Px
end
section
namespace Go.Px
theorem PI.leg {X : Cx} {ρ : Map} {h : Heap} {w : World} (p : PI X ρ h w) {S : Nat → Prop} (hS : ∀ b, S b → ¬ X.shut b) {ro : Option Nat} {hid : List Nat} {F : Nat → List Value} (hF : ∀ (b j : Nat) (x : Value), (ρ.F b)[j]? = some x → (F b)[j]? = some x) (hold : ∀ b, X.shut b → F b = ρ.F b) {ρ' : Map} {h' : Heap} {w' : World}
  (q : PI ⟨X.c, w, F, fun b => (∃ i N, ρ i = some (b, N)) ∨ S b, X.g, ro, hid, X.gv, X.gx⟩ ρ' h' w') :
  PI X ρ' h' w' ∧ Same w w' ∧ (∀ b, b < w.heap.size → ¬ ((∃ i N, ρ i = some (b, N)) ∨ S b) → w'.heap[b]? = w.heap[b]? ∧ ρ'.F b = F b ∧ ∀ i N, ρ' i ≠ some (b, N)) ∧ (∀ (b j : Nat) (x : Value), (F b)[j]? = some x → (ρ'.F b)[j]? = some x) ∧
   ∃ S' Fo', GhW X ρ' h' w' S' Fo' ∧ (∀ b, S' b → b < w'.heap.size) ∧ (∀ b, S' b → ¬ X.shut b) ∧ ∀ b, b < w.heap.size → ¬ ((∃ i N, ρ i = some (b, N)) ∨ S b) → ¬ S' b := by
 have p' := p.rebase hS hF hold q q.keep
 obtain ⟨S', Fo', s1, s2, s3⟩ := q.gh.wit
 refine ⟨p', q.ext.1, fun b hb hn => ⟨q.ext.2 b ⟨hb, hn⟩, q.old b ⟨hb, hn⟩, fun i N e => q.mine i b N e ⟨hb, hn⟩⟩, q.sub, S', Fo', fun G hG t z n l e => ?_, s2, fun b a hb => ?_, fun b hb hn a => s3 b a ⟨hb, hn⟩⟩
 ·obtain ⟨a1, a2, a3, a4, a5, a6, a7, a8, a9⟩ := s1 G hG t z n l e
  refine ⟨a1, a2, a3, a4, a5, a6, a7, fun b a hb => a8 b a ?_, a9⟩
  exact ⟨Nat.lt_of_lt_of_le hb.1 p.ext.1.size, fun y => y.elim (fun ⟨i, N, e⟩ => p.mine i b N e hb) (fun a => hS b a hb)⟩
 ·exact s3 b a ⟨Nat.lt_of_lt_of_le hb.1 p.ext.1.size, fun y => y.elim (fun ⟨i, N, e⟩ => p.mine i b N e hb) (fun a => hS b a hb)⟩
structure Base where
 w0 : World
 F0 : Nat → List Value
 opn : Nat → Prop
 ro : Option Nat
 gx : List Value
section
variable {X : Cx} {sz : Nat} {k : List It} {L L' : List (Nat × AV)} {h h' : Heap} {n : Nat} {m m' : List Nat} {Q : Post}
end
end Go.Px
end
section
namespace Go.Px
theorem leave_cons (h : Heap) (d : Nat) (m : List Nat) : leave h (d :: m) = (match h.get d with
      | .dfr b => (match b with | true => leave (h.put d (.dfr false)) m | false => none)
      | _ => none) := rfl
theorem leave_all : ∀ {m : List Nat} {h : Heap}, (∀ d ∈ m, h.get d = .dfr true) → m.Nodup → ∃ h', leave h m = some h' ∧ ∀ i, i ∉ m → h'.get i = h.get i
  | [], h, _, _ => ⟨h, rfl, fun _ _ => rfl⟩
  | d :: m, h, hd, hn => by
    have h1 := hd d List.mem_cons_self
    obtain ⟨hn1, hn2⟩ := List.nodup_cons.1 hn
    obtain ⟨h', q1, q2⟩ := leave_all (m := m) (h := h.put d (.dfr false)) (fun x hx => by
      rw [Heap.get_put, if_neg (fun e => hn1 (by rw [← e]; exact hx))]; exact hd x (List.mem_cons_of_mem _ hx)) hn2
    refine ⟨h', ?_, fun i hi => ?_⟩
    · rw [leave_cons, h1]; exact q1
    · rw [q2 i (fun q => hi (List.mem_cons_of_mem _ q)), Heap.get_put, if_neg (fun e => hi (by rw [e]; exact List.mem_cons_self))]
structure Hid (X : Cx) (ρ : Map) (S : Nat → Prop) (n0 : Nat) (w : World) (B : Nat) : Prop where
  lt : B < w.heap.size
  at_ : w.heap[B]? = some (.deferred (some []))
  im : ∀ i N, ρ i ≠ some (B, N)
  F : ρ.F B = []
  sh : ¬ X.shut B
  S : ¬ S B
  n0 : n0 ≤ B
theorem PI.addDfr {X : Cx} {ρ : Map} {h : Heap} {w : World} (p : PI X ρ h w) {S : Nat → Prop} {Fo : Nat → List Value} {n0 : Nat} (g : GhW X ρ h w S Fo) (hn0 : ∀ G, X.g = some G → G.n0 ≤ n0) (h1 : X.g = none ∨ 2 ≤ h.nxt) {B : Nat} (hB : Hid X ρ S n0 w B) :
    PI X ⟨fun i => if i = h.nxt then some (B, 0) else ρ i, ρ.F, ρ.V⟩ (h.new (.dfr true)) w ∧ GhW X ⟨fun i => if i = h.nxt then some (B, 0) else ρ i, ρ.F, ρ.V⟩ (h.new (.dfr true)) w S Fo := by
  let ρ' : Map := ⟨fun i => if i = h.nxt then some (B, 0) else ρ i, ρ.F, ρ.V⟩
  have m1 : ρ' h.nxt = some (B, 0) := if_pos rfl
  have m2 : ∀ i, i ≠ h.nxt → ρ' i = ρ i := fun i q => if_neg q
  have hs : Sub ρ ρ' := ⟨fun i q e => by rw [m2 i (fun k => by subst k; rw [p.fr.1 _ (Nat.le_refl _)] at e; cases e)]; exact e, fun _ _ _ e => e, fun _ _ _ e => e⟩
  have hg : ∀ j, j ≠ h.nxt → (h.new (.dfr true)).get j = h.get j := fun j q => by rw [Heap.get_new, if_neg q]
  have hn : (h.new (.dfr true)).get h.nxt = .dfr true := by rw [Heap.get_new, if_pos rfl]
  have ho : ∀ j, j ≠ h.nxt → ((h.new (.dfr true)).ok j ↔ h.ok j) := fun j q => Heap.ok_same (hg j q) (fun _ _ _ _ => rfl)
  have hc : ∀ i C N, ρ' i = some (C, N) → (i = h.nxt ∧ C = B) ∨ (i ≠ h.nxt ∧ ρ i = some (C, N)) := fun i C N e => by
    by_cases q : i = h.nxt
    · subst q; rw [m1] at e; cases e; exact .inl ⟨rfl, rfl⟩
    · rw [m2 i q] at e; exact .inr ⟨q, e⟩
  have gw : GhW X ρ' (h.new (.dfr true)) w S Fo := fun G hG t z n l e => by
    have hnx : 2 ≤ h.nxt := h1.resolve_left (fun q => by rw [q] at hG; cases hG)
    rw [hg 0 (by omega)] at e
    obtain ⟨s1, s2, s3, s4, s5, s6, ⟨N1, s7⟩, s8⟩ := g G hG t z n l e
    refine ⟨s1, s2, fun i C N e o => ?_, s4, s5, s6, ⟨N1, by rw [m2 1 (by omega)]; exact s7⟩, s8⟩
    rcases hc i C N e with ⟨_, rfl⟩ | ⟨q, e⟩
    · exact ⟨hB.S, Nat.le_trans (hn0 G hG) hB.n0⟩
    · exact s3 i C N e ((ho i q).1 o)
  refine ⟨⟨⟨fun i C N e => ?_, fun i C N e q => ?_, fun i j C N M hij e1 e2 k1 k2 => ?_, fun i r q => ?_, p.hr.fz, fun i C N e q => ?_, fun i t' z' n l q => ?_⟩, ⟨fun i hi => ?_, fun i r q e1 e2 => ?_, fun i r q t e1 e2 e3 => ?_, fun q hq => p.wf.tipr q (Nat.le_of_succ_le hq)⟩, ⟨fun i hi => ?_, fun i r q => ?_⟩, fun i hi n => p.vf i (Nat.le_of_succ_le hi) n, fun i t' z' n l q m' hm => ?_, p.ext, fun i C N e => ?_, p.sub, p.old, p.keep.mono hs, gw.gh⟩, gw⟩
  · rcases hc i C N e with ⟨_, rfl⟩ | ⟨q, e⟩
    · exact hB.lt
    · exact p.hr.lt i C N e
  · rcases hc i C N e with ⟨rfl, rfl⟩ | ⟨hi, e⟩
    · rw [hn]; exact hB.at_
    · rw [hg i hi]; exact (p.hr.ok i C N e ((ho i hi).1 q)).mono hs
  · rcases hc i C N e1 with ⟨rfl, rfl⟩ | ⟨hi, e1⟩
    · rcases hc j C M e2 with ⟨rfl, _⟩ | ⟨hj, e2⟩
      · exact absurd rfl hij
      · exact absurd e2 (hB.im j M)
    · rcases hc j C M e2 with ⟨_, hCB⟩ | ⟨hj, e2⟩
      · rw [hCB] at e1; exact absurd e1 (hB.im i N)
      · obtain ⟨r, s, q, a, b, c⟩ := p.hr.inj i j C N M hij e1 e2 ((ho i hi).1 k1) ((ho j hj).1 k2)
        exact ⟨r, s, q, by rw [hg i hi]; exact a, by rw [hg j hj]; exact b, c⟩
  · by_cases hi : i = h.nxt
    · subst hi; rw [hn] at q; cases q
    · rw [hg i hi] at q
      obtain ⟨N, hN⟩ := p.hr.gl i r q
      exact ⟨N, by rw [m2 i hi]; exact hN⟩
  · rcases hc i C N e with ⟨_, rfl⟩ | ⟨hi, e⟩
    · exact .inl hB.F
    · rw [hg i hi]; exact p.hr.sep i C N e ((ho i hi).1 q)
  · by_cases hi : i = h.nxt
    · subst hi; rw [hn] at q; cases q
    · rw [hg i hi] at q; exact (p.hr.av i t' z' n l q).mono hs
  · have hi' : h.nxt + 1 ≤ i := hi
    rw [hg i (by omega)]; exact p.wf.fresh i (by omega)
  · by_cases hi : i = h.nxt
    · subst hi; rw [hn] at e1; cases e1
    · rw [hg i hi] at e1; exact Nat.lt_succ_of_lt (p.wf.root i r q e1 e2)
  · by_cases hi : i = h.nxt
    · subst hi; rw [hn] at e1; cases e1
    · rw [hg i hi] at e1
      obtain ⟨s, a, c⟩ := p.wf.tip i r q t e1 e2 e3
      exact ⟨s, by rw [hg t (fun k => by subst k; rw [p.wf.fresh _ (Nat.le_refl _)] at a; cases a)]; exact a, c⟩
  · have hi' : h.nxt + 1 ≤ i := hi
    rw [m2 i (by omega)]; exact p.fr.1 i (by omega)
  · have := p.fr.2 i r q
    rw [hg i (fun k => by subst k; rw [p.wf.fresh _ (Nat.le_refl _)] at this; cases this)]; exact this
  · by_cases hi : i = h.nxt
    · subst hi; rw [hn] at q; cases q
    · rw [hg i hi] at q; exact p.vu i t' z' n l q m' hm
  · rcases hc i C N e with ⟨_, rfl⟩ | ⟨q, e⟩
    · exact hB.sh
    · exact p.mine i C N e
theorem PI.unhide {X : Cx} {S : Nat → Prop} {Fo : Nat → List Value} {n0 : Nat} {w : World} (hn0 : ∀ G, X.g = some G → G.n0 ≤ n0) : ∀ (Hs : List Nat) {ρ : Map} {h : Heap}, PI X ρ h w → GhW X ρ h w S Fo → (X.g = none ∨ 2 ≤ h.nxt) → (∀ B ∈ Hs, Hid X ρ S n0 w B) → Hs.Nodup →
    ∃ ρ' h' ids, PI X ρ' h' w ∧ GhW X ρ' h' w S Fo ∧ MR ρ' ids (Hs.map colD) ∧ Sub ρ ρ' ∧ (∀ i, i < h.nxt → h'.get i = h.get i) ∧ (∀ d ∈ ids, h.nxt ≤ d ∧ h'.get d = .dfr true) ∧ ids.Nodup ∧ h.nxt ≤ h'.nxt ∧ ∀ C, (∀ i N, ρ i ≠ some (C, N)) → C ∉ Hs → ∀ i N, ρ' i ≠ some (C, N)
  | [], ρ, h, p, g, _, _, _ => ⟨ρ, h, [], p, g, rfl, Sub.refl _, fun _ _ => rfl, fun _ q => (by cases q), List.nodup_nil, Nat.le_refl _, fun C hC _ => hC⟩
  | B :: Hs, ρ, h, p, g, h1, hH, hnd => by
    obtain ⟨nd1, nd2⟩ := List.nodup_cons.1 hnd
    obtain ⟨ρ1, k1, ids, p1, g1, m1, s1, q1, q2, q3, q4, q5⟩ := PI.unhide hn0 Hs p g h1 (fun C hC => hH C (List.mem_cons_of_mem _ hC)) nd2
    have hB := hH B List.mem_cons_self
    have hF : ρ1.F B = [] := by
      exact Classical.byContradiction fun q => by
        have := p1.hr.F_lt q
        obtain ⟨x, hx⟩ := List.exists_mem_of_ne_nil _ q
        obtain ⟨i, hi⟩ := List.getElem?_of_mem hx
        have := p1.hr.fz B i x hi
        unfold World.cell? at this
        rw [hB.at_] at this
        simp at this
    have hB1 : Hid X ρ1 S n0 w B := ⟨hB.lt, hB.at_, q5 B hB.im nd1, hF, hB.sh, hB.S, hB.n0⟩
    obtain ⟨p2, g2⟩ := p1.addDfr g1 hn0 (h1.imp id fun q => Nat.le_trans q q4) hB1
    have hs : Sub ρ1 ⟨fun i => if i = k1.nxt then some (B, 0) else ρ1 i, ρ1.F, ρ1.V⟩ := ⟨fun i q e => by
      show (if i = k1.nxt then some (B, 0) else ρ1 i) = some q
      rw [if_neg (fun k => by subst k; rw [p1.fr.1 _ (Nat.le_refl _)] at e; cases e)]; exact e, fun _ _ _ e => e, fun _ _ _ e => e⟩
    refine ⟨_, _, k1.nxt :: ids, p2, g2, ?_, s1.trans hs, fun i hi => ?_, fun d hd => ?_, ?_, ?_, fun C hC hCn i N e => ?_⟩
    · exact ⟨B, 0, _, if_pos rfl, m1.mono hs, rfl⟩
    · rw [Heap.get_new, if_neg (by omega)]; exact q1 i hi
    · rcases List.mem_cons.1 hd with rfl | hd
      · exact ⟨q4, by rw [Heap.get_new, if_pos rfl]⟩
      · obtain ⟨a, b⟩ := q2 d hd
        refine ⟨a, ?_⟩
        rw [Heap.get_new, if_neg (fun k => by subst k; rw [p1.wf.fresh _ (Nat.le_refl _)] at b; cases b)]; exact b
    · refine List.nodup_cons.2 ⟨fun hd => ?_, q3⟩
      obtain ⟨a, b⟩ := q2 _ hd
      rw [p1.wf.fresh _ (Nat.le_refl _)] at b; cases b
    · exact Nat.le_succ_of_le q4
    · have e' : (if i = k1.nxt then some (B, 0) else ρ1 i) = some (C, N) := e
      by_cases q : i = k1.nxt
      · rw [if_pos q] at e'; cases e'; exact hCn List.mem_cons_self
      · rw [if_neg q] at e'; exact q5 C hC (fun q => hCn (List.mem_cons_of_mem _ q)) i N e'
/-! ## the loop -/
def LoopW (P : Program) (ro : Option Nat) (c : Code) (Q' : Exit → Act → World → Prop) (a : Act) (w : World) : Prop :=
  ∀ (b : Frame) (kk : List Item) (cs : List Frame), b.roundOf = (wideR ro).round → (wideR ro).fn b.fn → (wideR ro).room (cs.length + 1 + 0) → ∃ e a'' w'', Q' e a'' w'' ∧ ArrivesIn (Machine.fenced P (wideR ro)) P (lone (b.atR a (.code c :: .inLoop c :: kk)) cs w) b kk cs e a'' w''
theorem LoopW.next {P : Program} {ro : Option Nat} {c : Code} {Q' : Exit → Act → World → Prop} {a : Act} {w : World} (key : c.wpIn (wideR ro) 0 P (fun e a' w' => match e with
      | .normal => LoopW P ro c Q' a' w'
      | e => (∃ x, e = exitOf x ∧ x ≠ .normal) ∧ Q' e a' w') a w) : LoopW P ro c Q' a w := by
  intro b kk cs hro hb hroom
  obtain ⟨e, a₁, w₁, hq, harr⟩ := key b (.inLoop c :: kk) cs hro hb hroom
  cases e with
  | normal =>
    obtain ⟨e₂, a₂, w₂, hq₂, harr₂⟩ := hq b kk cs hro hb hroom
    exact ⟨e₂, a₂, w₂, hq₂, .of_steps (StepsIn.trans harr (.one (fenced_calm hb hroom rfl) stepR_inLoop)) harr₂⟩
  | exit id => exact ⟨_, a₁, w₁, hq.2, .pass (x := .inLoop c) rfl (fun _ _ => .inl (by simp)) harr⟩
  | ret => exact ⟨_, a₁, w₁, hq.2, .pass (x := .inLoop c) rfl (fun _ _ => .inl (by simp)) harr⟩
  | goto l => obtain ⟨x, hx, _⟩ := hq.1; cases x <;> cases hx
  | panic ch => obtain ⟨x, hx, _⟩ := hq.1; cases x <;> cases hx
  | outgrown => obtain ⟨x, hx, _⟩ := hq.1; cases x <;> cases hx
theorem MR.blocks {ρ : Map} : ∀ {m : List Nat} {D : List Deferred}, MR ρ m D → ∃ Bs : List Nat, D = Bs.map colD ∧ Bs.length = m.length ∧ ∀ (j d : Nat), m[j]? = some d → ∃ B N, Bs[j]? = some B ∧ ρ d = some (B, N)
  | [], D, h => ⟨[], by simpa [MR] using h, rfl, fun j d e => by simp at e⟩
  | d :: m, D, h => by
    obtain ⟨B, N, r, a, b, c⟩ := h
    obtain ⟨Bs, e1, e2, e3⟩ := MR.blocks b
    refine ⟨B :: Bs, by rw [c, e1]; rfl, by simp [e2], fun j d' e => ?_⟩
    cases j with
    | zero => simp at e; subst e; exact ⟨B, N, rfl, a⟩
    | succ j => exact e3 j d' (by simpa using e)
structure B2 where
  w0 : World
  F0 : Nat → List Value
  opn : Nat → Prop
  hid : List Nat
def XR (X : Cx) (b : B2) : Cx := ⟨X.c, b.w0, b.F0, b.opn, X.g, X.ro, b.hid, X.gv, X.gx⟩
theorem ab_ok {X : Cx} {ρ : Map} {h : Heap} {w : World} {n : Nat} {i : Nat} {b : AB} (hb : h.get i = b) (hn : b ≠ .none) (hl : ABLow n b) : h.ok i := by
  unfold Heap.ok
  rw [hb]
  cases b with
  | none => exact absurd rfl hn
  | row r => simp only []; rw [Heap.row_of hb, hl.1]; rfl
  | _ => trivial
end Go.Px
end
section
namespace Go.Px
open Go.Sort Go.Proofs
section
variable {X : Cx} {tb : List (Nat × TE)} (E : Env X.c tb) {sz : Nat} {rd : Option Nat} {all : Array Oper} {o : Oper} {rest : List Oper} {k : List It} {L : List (Nat × AV)} {h : Heap} {m : List Nat} {Q : Post}
include E
end
end Go.Px
end
section
open Go.Sort Go.Proofs
namespace Go.Px
end Go.Px
end
section
namespace Go.Px
section
variable {X : Cx} {tb : List (Nat × TE)} (E : Env X.c tb) {sz : Nat} {rd : Option Nat} {all : Array Oper} {o : Oper} {rest : List Oper} {k : List It} {L : List (Nat × AV)} {h : Heap} {m : List Nat} {Q : Post}
include E
theorem Hop.ldF1 {α : Type} [Inhabited α] {t : Nat} {x : Operand} {id n i off ty z : Nat} {enc : α → List AV} {l : List α} {v : AV} {e : TE} (ho : o.op = .load t x) (hx : evL L x = some (.optr id n off)) (hoff : off = i * z) (ht : lkT tb t = some e) (ha : e.k.isAgg = false) (hg : h.get id = .arr ty z n (l.flatMap enc)) (henc : ∀ a, (enc a).length = z) (hz : Nat.ble 1 z = true) (hv : nth1 (enc (l.getD i default)) 0 = some v) (hi : i < l.length) : Hop X L h o v h :=
 Hop.ldF E ho hx (by rw [hoff]; rfl) ht ha hg henc hz hv hi
end
end Go.Px
end
section
namespace Go.Px
section
variable {X : Cx} {tb : List (Nat × TE)} (E : Env X.c tb) {sz : Nat} {rd : Option Nat} {all : Array Oper} {o : Oper} {rest : List Oper} {k : List It} {L : List (Nat × AV)} {h : Heap} {m : List Nat} {Q : Post}
include E
end
end Go.Px
end
section
namespace Go.Px
theorem mrx_out {X : Cx} {ρ ρ' : Map} {id : Nat} (m2 : ∀ i, i ≠ id → ρ' i = ρ i) : ∀ {m : List Nat} {D : List Deferred}, (m.all fun i => !Nat.beq i id) = true → MR ρ m D → MR ρ' m D
 | [], D, _, q => q
 | d :: m, D, hh, q => by
  simp only [List.all_cons, Bool.and_eq_true] at hh
  obtain ⟨B, N, r, q1, q2, q3⟩ := q
  exact ⟨B, N, r, by rw [m2 d (nb hh.1)]; exact q1, mrx_out (X := X) m2 hh.2 q2, q3⟩
theorem rox_out {X : Cx} {ρ ρ' : Map} {id : Nat} {rd ro : Option Nat} (m2 : ∀ i, i ≠ id → ρ' i = ρ i) (hrd : rdNot id rd = true) (h1 : RoX X ρ rd ro) : RoX X ρ' rd ro := by
 cases rd with
 | none => exact h1
 | some r =>
  obtain ⟨B, N, q1, q2⟩ := h1
  exact ⟨B, N, by rw [m2 r (nb (show (!Nat.beq r id) = true from hrd))]; exact q1, q2⟩
section
variable {X : Cx} {sz : Nat} {rd : Option Nat} {L : List (Nat × AV)} {h : Heap} {m : List Nat}
theorem Chg.cellFrz (id k : Nat) {t ty : TypeId} {z n : Nat} {l : List AV} (hg : h.get id = .row ⟨t, 1, .leaf, [.own k n z], none⟩) (hk : h.get k = .arr ty z n l) (hi : HInd k h) (hL : indL k L = true) (hm : (m.all fun i => !Nat.beq i k) = true) (hrd : rdNot k rd = true) (hG : indsB k X.gv = true := by rfl) :
  Chg X sz rd L h L ((h.put k .none).put id (.row ⟨t, 1, .leaf, [.rsl n z l], none⟩)) m := fun ro ρ w e a h1 p h3 he h4 => by
 obtain ⟨ρ', p', sx, m2, f4, fV⟩ := p.frzArr hk hi hG
 have hne : id ≠ k := fun q => by subst q; rw [hg] at hk; cases hk
 have hg' : (h.put k .none).get id = .row ⟨t, 1, .leaf, [.own k n z], none⟩ := by rw [Heap.get_put, if_neg hne]; exact hg
 have p2 := p'.cell (r' := ⟨t, 1, .leaf, [.rsl n z l], none⟩) hg' rfl rfl rfl rfl (fun j v hj q => by
  have hj : j = 0 := by have hj : j < 1 := hj; omega
  subst hj
  rw [row1] at q ⊢
  refine f4 v ?_
  simp only [VR] at q ⊢
  rw [fV] at q; exact q)
 obtain ⟨e', he', er'⟩ := known_env (σ := ρ') (L := L) (tm := a.tmps) (sz := sz) h3.1 (fun s v q => by
  have := h3.2 s
  rw [he s v q] at this
  exact ind_ok sx v (indL_at hL s v q) this)
 obtain ⟨D1, h5, h6⟩ := h4
 exact ⟨ρ', e', rox_out m2 hrd h1, p2, er', he', ⟨D1, mrx_out (X := X) m2 hm h5, h6⟩⟩
end
section
variable {X : Cx} {tb : List (Nat × TE)} (E : Env X.c tb) {sz : Nat} {rd : Option Nat} {all : Array Oper} {o : Oper} {rest : List Oper} {k : List It} {L : List (Nat × AV)} {h : Heap} {m : List Nat} {Q : Post}
include E
end
end Go.Px
end
section
namespace Go.Px
section
variable {X : Cx} {sz : Nat} {rd : Option Nat} {all : Array Oper} {k : List It} {L : List (Nat × AV)} {h : Heap} {m : List Nat} {Q : Post}
end
theorem oks_at {A R : List Nat} : ∀ {cs : List AV} {j : Nat}, oksB A R cs = true → j < cs.length → okB A R (cs.getD j .bad) = true
 | [], _, _, h => by simp at h
 | c :: cs, j, h, hj => by
  simp only [oksB] at h
  split at h
  ·rename_i hc
   cases j with
   | zero => exact hc
   | succ j => exact oks_at (cs := cs) h (by simpa using hj)
  ·cases h
theorem ok_row {A R : List Nat} {N : Nat} {t : TypeId} {cs : List AV} (hN : cs.length = N) (h : oksB A R cs = true) : ABOk A R (.row ⟨t, N, .leaf, cs, none⟩) := by
 subst hN
 show ((List.range cs.length).all fun j => okB A R (Row.get ⟨t, cs.length, .leaf, cs, none⟩ j)) = true
 rw [List.all_eq_true]
 intro j hj
 have hj : j < cs.length := by simpa using hj
 rw [row_at_i hj]; exact oks_at h hj
end Go.Px
end
section
namespace Go.Px
section
variable {X : Cx} {tb : List (Nat × TE)} {sz : Nat} {rd : Option Nat} {all : Array Oper} {o : Oper} {rest : List Oper} {k : List It} {L : List (Nat × AV)} {h : Heap} {m : List Nat} {Q : Post}
end
/-! ## packages' variables as a heap -/
structure BaseOk (g0 : Heap) : Prop where
 wf : WF g0
 only : ∀ i, g0.get i = .none ∨ ∃ r, g0.get i = .gl r
end Go.Px
end
section
namespace Go.Px
noncomputable def rdyG (ops : List Oper) (done : Nat) : Nat → List Nat → List Nat
 | _, [] => []
 | i, _ :: r => (match bitB done i with
  | true => rdyG ops done (i + 1) r
  | false => (match nth1 ops i with
   | some o => (match o.after.toList.all fun e => (match edgeB e with | true => (bitB done e.on && Nat.ble (e.on + 1) ops.length) | false => true) with
    | true => i :: rdyG ops done (i + 1) r
    | false => rdyG ops done (i + 1) r)
   | none => rdyG ops done (i + 1) r))
noncomputable def rdy (ops : List Oper) (done : Nat) : List Nat := rdyG ops done 0 (List.range ops.length)
theorem rdyG_mem (ops : List Oper) (done : Nat) : ∀ (r : List Nat) (i j : Nat), i ≤ j → j < i + r.length → bitB done j = false → (∃ o, nth1 ops j = some o ∧ ∀ e ∈ o.after.toList, edgeB e = true → bitB done e.on = true ∧ e.on < ops.length) → j ∈ rdyG ops done i r
 | [], i, j, h1, h2, _, _ => absurd h2 (by simp; omega)
 | x :: r, i, j, h1, h2, hb, ho => by
  have ih := fun (q : i ≠ j) => rdyG_mem ops done r (i + 1) j (by omega) (by simp at h2; omega) hb ho
  unfold rdyG
  by_cases hij : i = j
  ·subst hij
   rw [hb]
   obtain ⟨o, e1, e2⟩ := ho
   simp only [e1]
   have : (o.after.toList.all fun e => (match edgeB e with | true => (bitB done e.on && Nat.ble (e.on + 1) ops.length) | false => true)) = true := by
    rw [List.all_eq_true]
    intro e he
    cases hg : edgeB e with
    | true =>
     obtain ⟨q1, q2⟩ := e2 e he hg
     simp only [q1, Bool.true_and]
     exact Nat.ble_eq_true_of_le q2
    | false => rfl
   simp [this]
  ·have ih := ih hij
   split
   ·exact ih
   ·split
    ·split
     ·exact List.mem_cons_of_mem _ ih
     ·exact ih
    ·exact ih
theorem rdyG_spec (ops : List Oper) (done : Nat) : ∀ (r : List Nat) (i j : Nat), j ∈ rdyG ops done i r → bitB done j = false ∧ ∃ o, nth1 ops j = some o ∧ ∀ e ∈ o.after.toList, edgeB e = true → bitB done e.on = true ∧ e.on < ops.length
 | [], i, j, h => by cases h
 | x :: r, i, j, h => by
  have ih := rdyG_spec ops done r (i + 1) j
  unfold rdyG at h
  split at h
  ·exact ih h
  ·rename_i hb
   split at h
   ·rename_i o ho
    split at h
    ·rename_i ha
     rcases List.mem_cons.1 h with h | h
     ·subst h
      refine ⟨hb, o, ho, fun e he hg => ?_⟩
      have := List.all_eq_true.1 ha e he
      simp only [hg, Bool.and_eq_true] at this
      exact ⟨this.1, Nat.le_of_ble_eq_true this.2⟩
     ·exact ih h
    ·exact ih h
   ·exact ih h
theorem rdy_of {ops : Array Oper} {listed : Array Bool} {done i : Nat} (hs : listed.size = ops.size) (hd : ∀ i, i < ops.size → listed.getD i false = bitB done i) (h : i ∈ Region.ready .any ops listed) : i ∈ rdy ops.toList done ∧ i < ops.size := by
 unfold Region.ready at h
 rw [List.mem_filter] at h
 obtain ⟨h1, h2⟩ := h
 have hi : i < ops.size := List.mem_range.1 h1
 refine ⟨?_, hi⟩
 simp only [Bool.and_eq_true] at h2
 obtain ⟨h2, h3⟩ := h2
 have hl : listed.getD i false = false := by
  have : listed.getD i true = false := by simpa using h2
  rw [Array.getD_eq_getD_getElem?] at this ⊢
  rw [Array.getElem?_eq_getElem (by omega)] at this ⊢
  exact this
 refine rdyG_mem ops.toList done _ 0 i (Nat.zero_le _) (by simpa using hi) (by rw [← hd i hi]; exact hl) ?_
 rw [Array.getElem?_eq_getElem hi] at h3
 simp only [Option.map_some, Option.getD_some] at h3
 refine ⟨ops[i], by rw [nth1_eq]; simp [hi], fun e he hg => ?_⟩
 rw [Array.all_eq_true_iff_forall_mem] at h3
 have := h3 e (by simpa using he)
 rw [← edgeB_eq, hg] at this
 simp only [Bool.not_true, Bool.false_or] at this
 by_cases hj : e.on < ops.size
 ·rw [← hd _ hj]; exact ⟨this, by simpa using hj⟩
 ·rw [Array.getD_eq_getD_getElem?, Array.getElem?_eq_none (by omega)] at this; cases this
section
variable {X : Cx} {sz : Nat} {rd : Option Nat} {all : Array Oper} {k : List It} {L : List (Nat × AV)} {h : Heap} {m : List Nat} {Q : Post}
def AnyT (X : Cx) (sz : Nat) (rd : Option Nat) (all : Array Oper) (fuel done : Nat) (s : St) (K : St → Prop) : Prop :=
 ∀ (listed : Array Bool), listed.size = all.size → (∀ i, i < all.size → listed.getD i false = bitB done i) →
 ∀ (ro : Option Nat) (ρ : Map) (w : World) (a : Act) (Q' : Exit → Act → World → Prop), RoX X ρ rd ro → PI X ρ s.h w → ER ρ s.e a.tmps sz → MRX X ρ s.m a.defers →
 (∀ s' a' w' ρ', K s' → RoX X ρ' rd ro → PI X ρ' s'.h w' → ER ρ' s'.e a'.tmps sz → MRX X ρ' s'.m a'.defers → Q' .normal a' w') → wpAnyIn (wideR ro) 0 X.c.P .any all Q' fuel listed a w
def AnyQ (X : Cx) (sz : Nat) (rd : Option Nat) (all : Array Oper) (fuel done : Nat) (k : List It) (Q : Post) : Post := fun x s => x = .normal ∧ AnyT X sz rd all fuel done s (fun s' => RunK X sz rd k Q .normal s')
theorem letsOut_of {Q1 Q2 : Exit → Act → World → Prop} (h : ∀ x a w, x ≠ .normal → Q1 x a w → Q2 x a w) (q : LetsOut Q1) : LetsOut Q2 := by
 obtain ⟨a, w, q⟩ := q
 exact ⟨a, w, h _ a w (fun q => by cases q) q⟩
theorem wpOpIn_post {F : Fence} {n : Nat} {P : Program} {ops : Array Oper} {Q1 Q2 : Exit → Act → World → Prop} (h : ∀ x a w, x ≠ .normal → Q1 x a w → Q2 x a w) {i : Nat} {K : Act → World → Prop} {a : Act} {w : World} (hh : wpOpIn F n P ops Q1 i K a w) : wpOpIn F n P ops Q2 i K a w := by
 unfold wpOpIn at *
 split
 ·simpa [*] using hh
 ·rename_i o ho
  simp only [ho] at hh
  split
  ·rename_i hw
   simp only [hw, if_true] at hh
   unfold Oper.wpIn at *
   refine ⟨hh.1, ?_⟩
   have hh := hh.2
   generalize (o.semAt F.round a.eval).run P w = r at *
   cases r with
   | ok x w' =>
    cases x <;> simp only [Oper.uponIn] at hh ⊢ <;>
     first
      | exact hh
      | exact ⟨hh.1, CallsIn.mono hh.2 (fun e w'' he => by cases e <;> first | exact he | exact h _ _ _ (fun q => by cases q) he | exact letsOut_of h he)⟩
      | exact ⟨hh.1, RoundIn.mono hh.2 (fun e w'' he => by cases e <;> first | exact he | exact h _ _ _ (fun q => by cases q) he | exact letsOut_of h he)⟩
   | halt x w' => cases x <;> simp only [Oper.uponIn] at hh ⊢ <;> first | exact hh | exact h _ _ _ (fun q => by cases q) hh
  ·rename_i hw; simp only [hw] at hh; exact hh
theorem Go.anyD (hm : X.c.P.follows .mixedOrders = true) {id : Nat} (n : Go X sz rd [] L h m (AnyQ X sz rd all all.toList.length 0 k Q)) : Go X sz rd (.code (.region id all true) :: k) L h m Q := ⟨fun e he => by
 intro ro ρ w a Q' h1 h2 h3 h4 h5
 obtain ⟨_, q⟩ : AnyQ X sz rd all all.toList.length 0 k Q .normal ⟨e, h, m⟩ := n.run e he
 refine wpIn_region_any hm ?_
 have := q (Array.replicate all.size false) (by simp) (fun i hi => by rw [Array.getD_eq_getD_getElem?, Array.getElem?_replicate, if_pos hi, bit_zero]; rfl) ro ρ { w with drawn := w.drawn + 1 } a Q' h1
  (h2.good ((Good.refl h2.hr h2.wf).draw rfl ⟨rfl, rfl, rfl, Nat.le_refl _⟩) (ArrKeep.refl h)) h3 h4 (fun s' a2 w2 ρ2 z1 z2 z3 z4 z5 => h5 .normal s' a2 w2 ρ2 z1 z2 z3 z4 z5)
 simpa using this⟩
theorem Go.anyEnd {fuel done : Nat} (hr : rdy all.toList done = []) (n : Go X sz rd k L h m Q) : Go X sz rd [] L h m (AnyQ X sz rd all fuel done k Q) := Go.nil fun e he => ⟨rfl, fun listed hs hd ro ρ w a Q' h1 h2 h3 h4 h5 => by
 have hnil : Region.ready .any all listed = [] := by
  cases q : Region.ready .any all listed with
  | nil => rfl
  | cons i r =>
   have := (rdy_of hs hd (i := i) (by rw [q]; exact List.mem_cons_self)).1
   rw [hr] at this; cases this
 have hq : Q' .normal a w := h5 _ a w ρ (n.run e he) h1 h2 h3 h4
 cases fuel with
 | zero => exact ⟨hnil, hq⟩
 | succ fuel =>
  refine ⟨fun _ => hq, fun i hi => ?_⟩
  rw [hnil] at hi; cases hi⟩
def NextA (X : Cx) (sz : Nat) (rd : Option Nat) (all : Array Oper) (fuel done : Nat) (k : List It) (L : List (Nat × AV)) (h : Heap) (m : List Nat) (Q : Post) (i : Nat) : Prop :=
 ∃ o, nth1 all.toList i = some o ∧ Ops X sz rd all [o] [] L h m (AnyQ X sz rd all fuel (orB done (bit1 i)) k Q)
theorem Go.anyStep {fuel done : Nat} (hne : ∀ listed, listed.size = all.size → (∀ i, i < all.size → listed.getD i false = bitB done i) → Region.ready .any all listed ≠ []) (H : ∀ i ∈ rdy all.toList done, NextA X sz rd all fuel done k L h m Q i) : Go X sz rd [] L h m (AnyQ X sz rd all (fuel + 1) done k Q) := Go.nil fun e he => ⟨rfl, fun listed hs hd ro ρ w a Q' h1 h2 h3 h4 h5 => by
 refine ⟨fun q => absurd q (hne listed hs hd), fun i hi => ?_⟩
 obtain ⟨hi1, hi2⟩ := rdy_of hs hd hi
 obtain ⟨o, ho, n⟩ := H i hi1
 rw [nth1_eq] at ho
 have ho' : all[i]? = some o := by simpa using ho
 let Q2 : Exit → Act → World → Prop := fun x a w => match x with | .normal => wpAnyIn (wideR ro) 0 X.c.P .any all Q' fuel (listed.setIfInBounds i true) a w | x => Q' x a w
 have g := n.run e he [i] (by simp [ho']) ro ρ w a Q2 h1 h2 h3 h4 (fun s' a' w' ρ' z1 z2 z3 z4 z5 => by
  obtain ⟨_, z1⟩ : AnyQ X sz rd all fuel (orB done (bit1 i)) k Q .normal s' := z1
  refine z1 (listed.setIfInBounds i true) (by simpa using hs) (fun j hj => ?_) ro ρ' w' a' Q' z2 z3 z4 z5 h5
  rw [bit_or, bit_one, ← hd j hj, Array.getD_eq_getD_getElem?, Array.getD_eq_getD_getElem?, Array.getElem?_setIfInBounds]
  by_cases hij : i = j
  ·subst hij
   rw [if_pos rfl, if_pos (by omega)]
   simp
  ·rw [if_neg hij]
   have : decide (j = i) = false := by simpa using fun q => hij q.symm
   rw [this, Bool.or_false])
 rw [wpOpsIn_cons] at g
 refine wpOpIn_mono (fun a w q => ?_) (wpOpIn_post (Q2 := Q') (fun x a w hx q => by cases x <;> first | exact q | exact absurd rfl hx) g)
 exact q⟩
theorem ready_ne {done i : Nat} {r : List Nat} (hr : rdy all.toList done = i :: r) (listed : Array Bool) (hs : listed.size = all.size) (hd : ∀ i, i < all.size → listed.getD i false = bitB done i) : Region.ready .any all listed ≠ [] := fun q => by
 obtain ⟨h1, o, h2, h3⟩ := rdyG_spec all.toList done (List.range all.toList.length) 0 i (by rw [← rdy, hr]; exact List.mem_cons_self)
 rw [nth1_eq] at h2
 have ho : all[i]? = some o := by simpa using h2
 have hi : i < all.size := by
  rcases Nat.lt_or_ge i all.size with h | h
  ·exact h
  ·rw [Array.getElem?_eq_none h] at ho; cases ho
 have : i ∈ Region.ready .any all listed := by
  unfold Region.ready
  rw [List.mem_filter]
  refine ⟨List.mem_range.2 hi, ?_⟩
  have e1 : listed.getD i true = false := by
   have := hd i hi
   rw [h1] at this
   rw [Array.getD_eq_getD_getElem?] at this ⊢
   rw [Array.getElem?_eq_getElem (by omega)] at this ⊢
   exact this
  rw [e1, ho]
  simp only [Option.map_some, Option.getD_some, Bool.not_false, Bool.true_and]
  rw [Array.all_eq_true_iff_forall_mem]
  intro e he
  cases hg : edgeB e with
  | false => rw [edgeB_eq] at hg; rw [hg]; rfl
  | true =>
   obtain ⟨q1, q2⟩ := h3 e (by simpa using he) hg
   rw [← edgeB_eq, hg, hd e.on (by simpa using q2), q1]; rfl
 rw [q] at this; cases this
section
variable {fuel done : Nat}
theorem Go.any1 {i : Nat} {o : Oper} (hr : rdy all.toList done = [i]) (ho : nth1 all.toList i = some o) (n : Ops X sz rd all [o] [] L h m (AnyQ X sz rd all fuel (orB done (bit1 i)) k Q)) : Go X sz rd [] L h m (AnyQ X sz rd all (fuel + 1) done k Q) :=
 Go.anyStep (ready_ne hr) fun j hj => by
  rw [hr] at hj
  rcases List.mem_singleton.1 hj with rfl
  exact ⟨o, ho, n⟩
theorem Go.any2 {i i2 : Nat} {o o2 : Oper} (hr : rdy all.toList done = [i, i2]) (ho : nth1 all.toList i = some o) (ho2 : nth1 all.toList i2 = some o2) (n : Ops X sz rd all [o] [] L h m (AnyQ X sz rd all fuel (orB done (bit1 i)) k Q)) (n2 : Ops X sz rd all [o2] [] L h m (AnyQ X sz rd all fuel (orB done (bit1 i2)) k Q)) : Go X sz rd [] L h m (AnyQ X sz rd all (fuel + 1) done k Q) :=
 Go.anyStep (ready_ne hr) fun j hj => by
  rw [hr] at hj
  rcases List.mem_cons.1 hj with rfl | hj
  ·exact ⟨o, ho, n⟩
  rcases List.mem_singleton.1 hj with rfl
  exact ⟨o2, ho2, n2⟩
end
end
/-! ## results that stand in boxes -/
def ldO (t a : Nat) : Oper := { dst := none, op := .load t (.tmp a), type := t, pos := "", after := #[], guard := none }
def ResH (X : Cx) (L : List (Nat × AV)) (h : Heap) : List ResultVar → List AV → Prop
 | [], [] => True
 | .tmp t :: r, v :: vs => lkO L t = some v ∧ ResH X L h r vs
 | .cell a t :: r, v :: vs => Hop X L h (ldO t a) v h ∧ ResH X L h r vs
 | _, _ => False
theorem resH_ok {X : Cx} {h : Heap} {L : List (Nat × AV)} {e : T AV} (he : Has e L) : ∀ {res : List ResultVar} {vs : List AV}, ResH X L h res vs → resA X.c h e res = some vs
 | [], [], _ => rfl
 | [], _ :: _, q => q.elim
 | .tmp t :: r, [], q => q.elim
 | .cell a t :: r, [], q => q.elim
 | .tmp t :: r, v :: vs, ⟨q1, q2⟩ => by
  have h1 := resH_ok he q2
  have h2 := he t v q1
  unfold resA at h1 ⊢
  simp only [h2, h1]
 | .cell a t :: r, v :: vs, ⟨q1, q2⟩ => by
  have h1 := resH_ok he q2
  have h2 := q1 e he
  have h3 : oLoad X.c h t (e.get und a) = some v := by
   have h2 : val h (oLoad X.c h t (e.get und a)) = some (.v v h) := h2
   cases q : oLoad X.c h t (e.get und a) with
   | none => rw [q] at h2; cases h2
   | some x => rw [q] at h2; cases h2; rfl
  unfold resA at h1 ⊢
  simp only [h3, h1]
theorem Go.retFc {X : Cx} {sz : Nat} {rd : Option Nat} {k : List It} {L : List (Nat × AV)} {h : Heap} {m : List Nat} {res : List ResultVar} {v : AV} (vs : List AV) {h' : Heap} (hl : leave h m = some h') (hr : ResH X L h' res vs) (hv : one vs = v) (hd : datB v = true) : Go X sz rd (.code .ret :: k) L h m (Fin X.c res v) :=
 Go.ret fun e he => ⟨.inr rfl, h', vs, hl, resH_ok he hr, hv, hd⟩
end Go.Px
end
section
namespace Go.Px
/-! ## ways that meet again -/
def Mid (L' : List (Nat × AV)) (h' : Heap) (m : List Nat) : Post := fun x s => x = .normal ∧ ∃ e, s = ⟨e, h', m⟩ ∧ Has e L'
theorem Go.mid {X : Cx} {sz : Nat} {rd : Option Nat} {k : List It} {L : List (Nat × AV)} {h : Heap} {m : List Nat} {Q : Post} {c : Code} (L' : List (Nat × AV)) (h' : Heap) (n1 : Go X sz rd [.code c] L h m (Mid L' h' m)) (n2 : Go X sz rd k L' h' m Q) : Go X sz rd (.code c :: k) L h m Q := ⟨fun e he =>
 (show Tri X sz rd c ⟨e, h, m⟩ (Mid L' h' m) from n1.run e he).mono fun x s' q => by
  obtain ⟨rfl, e', rfl, he'⟩ := q
  exact n2.run e' he'⟩
theorem Go.midE {X : Cx} {sz : Nat} {rd : Option Nat} {L L' : List (Nat × AV)} {h : Heap} {m : List Nat} (hs : SubL L L') : Go X sz rd [] L h m (Mid L' h m) := Go.nil fun e he => ⟨rfl, e, rfl, he.sub hs⟩
end Go.Px
end
section
namespace Go.Px
structure LW (W : World) (X : Cx) : Prop where
 ext : ExtW W X.w0
 opn : ∀ b, X.opn b → W.heap.size ≤ b
section
variable {X : Cx} {tb : List (Nat × TE)} {sz : Nat} {rd : Option Nat} {all : Array Oper} {o : Oper} {rest : List Oper} {k : List It} {L : List (Nat × AV)} {h : Heap} {m : List Nat} {Q : Post}
end
structure KMW (c : Ctx) (W : World) (f : FuncId) (bs : List MB) (args : List AV) (v : AV) (bs' : List MB) : Prop where
 le : bs.length ≤ bs'.length
 lo : lowM bs.length bs = true
 la : lowsB bs.length args = true
 lm : lowM bs'.length bs' = true
 lv : lowB bs'.length v = true
 ev : evidB args bs 0 = true
 run : ∀ (ρ : Map) (w : World) (A gx : List Value), ExtW W w → (∀ b, opnOf ρ b → W.heap.size ≤ b) → PI ⟨c, w, ρ.F, opnOf ρ, none, none, [], ptrs bs 0, gx⟩ ρ (hq bs.length (bs.map MB.ab)) w → VRs ρ args A →
  ∃ nx w1, (callFunc f A.toArray).run c.P w = .ok nx w1 ∧ NextOk c.P (fun z w' => ∃ ρ', PI ⟨c, w, ρ.F, opnOf ρ, none, none, [], ptrs bs 0, gx⟩ ρ' (hq bs'.length (bs'.map MB.ab)) w' ∧ VR ρ' v z) nx w1
section
variable {X : Cx} {tb : List (Nat × TE)} (E : Env X.c tb) {sz : Nat} {rd : Option Nat} {all : Array Oper} {o : Oper} {rest : List Oper} {k : List It} {L : List (Nat × AV)} {h : Heap} {m : List Nat} {Q : Post}
include E
end
structure KItW (c : Ctx) (W : World) (g : FuncId) (cap : List AV) (items : List (List AV)) : Prop where
 fn : ∃ fn, c.P.funcs[g]? = some fn ∧ fn.body.isSome = true
 run : ∀ (G : Gho c.P) (w : World) (C : List Value) (S : Nat → Prop) (F : Nat → List Value), ExtW W w → (∀ b, S b → W.heap.size ≤ b) → G.items = items → G.n0 = w.heap.size → FzW F w → VRs (fzm F) cap C → S G.blk → G.J 0 S F w → (∀ b, S b → b < w.heap.size) →
  ∃ nx w1, (callFunc g (Value.func (.yield G.blk) #[] #[] :: C).toArray).run c.P w = .ok nx w1 ∧ NextOk c.P (fun z w' => Same w w' ∧ (∀ b, b < w.heap.size → ¬ S b → w'.heap[b]? = w.heap[b]?) ∧
   ∃ k S' F', (k = items.length ∨ k = items.length + 1) ∧ G.J k S' F' w') nx w1
end Go.Px
end
section
namespace Go.Px
end Go.Px
end
section
namespace Go.Px
section
variable {X : Cx} {sz : Nat} {rd : Option Nat} {L : List (Nat × AV)} {h : Heap} {m : List Nat}
theorem row_at_n {t : TypeId} {cs : List AV} {j N : Nat} (hN : cs.length = N) (hj : j < N) : Row.get ⟨t, N, .leaf, cs, none⟩ j = cs.getD j .bad := by
 subst hN; exact row_at_i hj
theorem getD_set {cs : List AV} {i j : Nat} {v : AV} (hj : j < cs.length) : (cs.set i v).getD j .bad = if i = j then v else cs.getD j .bad := by
 rw [List.getD_eq_getElem?_getD, List.getElem?_set]
 by_cases e : i = j
 ·subst e; rw [if_pos rfl, if_pos hj, if_pos rfl]; rfl
 ·rw [if_neg e, if_neg e, List.getD_eq_getElem?_getD]
theorem Chg.tokCellJ (n0 id i : Nat) (ty z N : Nat) {t : TypeId} {cs : List AV} {u : AV} (hN : cs.length = N) (hi : i < N) (hci : cs.getD i .bad = u) (hn0 : h.nxt = n0) (hu : noRoom u = true) (hg : h.get id = .row ⟨t, N, .leaf, cs, none⟩) (hz : X.g = none ∨ Nat.ble 1 n0 = true := by first | exact .inl rfl | exact .inr rfl) : Chg X sz rd L h L ((newAt n0 h (.arr ty z 0 [])).put id (.row ⟨t, N, .leaf, cs.set i (.own n0 0 z), none⟩)) m := fun ro ρ w e a h1 p h3 he h4 => by
 rw [← new_at hn0]
 subst hn0
 have hlt : id < h.nxt := by
  rcases Nat.lt_or_ge id h.nxt with q | q
  ·exact q
  ·rw [p.wf.fresh id q] at hg; cases hg
 have hcell : ∀ B M, ρ id = some (B, M) → ∃ x, w.cell? ⟨B, i, none⟩ = some x ∧ VR ρ u x := fun B M e => by
  have := p.hr.ok id B M e (by unfold Heap.ok; rw [hg]; simp only []; rw [Heap.row_of hg]; rfl)
  rw [hg] at this
  have ro : RowOk ρ ⟨t, N, .leaf, cs, none⟩ B M w := this
  obtain ⟨x, x1, x2⟩ := ro.2.2.2 i hi
  rw [row_at_n hN hi, hci] at x2
  exact ⟨x, x1, x2⟩
 obtain ⟨v0, a0, hv0, hall⟩ : ∃ v0 a0, v0 = Value.slice a0 0 0 ∧ ∀ B M, ρ id = some (B, M) → w.cell? ⟨B, i, none⟩ = some v0 := by
  cases hid : ρ id with
  | none => exact ⟨_, none, rfl, fun B M e => by cases e⟩
  | some y =>
   obtain ⟨B, M⟩ := y
   obtain ⟨x, x1, x2⟩ := hcell B M hid
   obtain ⟨a, ha⟩ := noRoom_at hu x2
   exact ⟨x, a, ha, fun B' M' e => by cases e; exact x1⟩
 obtain ⟨ρ', p', hs, v1, hm, _⟩ := p.tokV ty z hv0 hz
 have hne : id ≠ h.nxt := by omega
 have hg' : (h.new (.arr ty z 0 [])).get id = .row ⟨t, N, .leaf, cs, none⟩ := by rw [Heap.get_new, if_neg hne]; exact hg
 refine ⟨ρ', e, h1.mono hs, p'.cellV hg' rfl rfl rfl rfl (fun B M e1 j v hj hc q => ?_), h3.mono hs, he, h4.mono hs⟩
 have hj : j < N := hj
 rw [row_at_n hN hj] at q
 rw [row_at_n (by rw [List.length_set]; exact hN) hj, getD_set (by omega)]
 by_cases eij : i = j
 ·subst eij
  rw [if_pos rfl]
  have e2 : ρ id = some (B, M) := by
   have : ρ'.m id = some (B, M) := e1
   rw [hm] at this; exact this
  rw [hall B M e2] at hc
  cases hc
  simp only [VR]
  exact ⟨v1, .inl ⟨trivial, _, hv0⟩⟩
 ·rw [if_neg eij]; exact q
theorem Chg.cellFrzJ (id k i N : Nat) {t ty : TypeId} {z n : Nat} {cs l : List AV} (hN : cs.length = N) (hij : i < N) (hci : cs.getD i .bad = .own k n z) (hg : h.get id = .row ⟨t, N, .leaf, cs, none⟩) (hk : h.get k = .arr ty z n l) (hi : HInd k h) (hL : indL k L = true) (hm : (m.all fun i => !Nat.beq i k) = true) (hrd : rdNot k rd = true) (hG : indsB k X.gv = true := by rfl) :
  Chg X sz rd L h L ((h.put k .none).put id (.row ⟨t, N, .leaf, cs.set i (.rsl n z l), none⟩)) m := fun ro ρ w e a h1 p h3 he h4 => by
 obtain ⟨ρ', p', sx, m2, f4, fV⟩ := p.frzArr hk hi hG
 have hne : id ≠ k := fun q => by subst q; rw [hg] at hk; cases hk
 have hg' : (h.put k .none).get id = .row ⟨t, N, .leaf, cs, none⟩ := by rw [Heap.get_put, if_neg hne]; exact hg
 have p2 := p'.cell (r' := ⟨t, N, .leaf, cs.set i (.rsl n z l), none⟩) hg' rfl rfl rfl rfl (fun j v hj q => by
  have hj : j < N := hj
  rw [row_at_n hN hj] at q
  rw [row_at_n (by rw [List.length_set]; exact hN) hj, getD_set (by omega)]
  by_cases eij : i = j
  ·subst eij
   rw [if_pos rfl]
   rw [hci] at q
   refine f4 v ?_
   simp only [VR] at q ⊢
   rw [fV] at q; exact q
  ·rw [if_neg eij]; exact q)
 obtain ⟨e', he', er'⟩ := known_env (σ := ρ') (L := L) (tm := a.tmps) (sz := sz) h3.1 (fun s v q => by
  have := h3.2 s
  rw [he s v q] at this
  exact ind_ok sx v (indL_at hL s v q) this)
 obtain ⟨D1, h5, h6⟩ := h4
 exact ⟨ρ', e', rox_out m2 hrd h1, p2, er', he', ⟨D1, mrx_out (X := X) m2 hm h5, h6⟩⟩
end
end Go.Px
end
section
namespace Go.Px
def byC (c : UInt8) : List AV := [.int .u8 c.toNat]
section
variable {X : Cx} {tb : List (Nat × TE)} (E : Env X.c tb) {sz : Nat} {rd : Option Nat} {all : Array Oper} {o : Oper} {rest : List Oper} {k : List It} {L : List (Nat × AV)} {h : Heap} {m : List Nat} {Q : Post}
include E
end
section
variable {X : Cx} {tb : List (Nat × TE)} (E : Env X.c tb) {sz : Nat} {rd : Option Nat} {all : Array Oper} {o : Oper} {rest : List Oper} {k : List It} {L : List (Nat × AV)} {h : Heap} {m : List Nat} {Q : Post}
include E
end
end Go.Px
end
section
namespace Go.Px
section
variable {X : Cx} {tb : List (Nat × TE)} (E : Env X.c tb) {o : Oper} {L : List (Nat × AV)} {h : Heap}
end
end Go.Px
end
section
namespace Go.Px
/-! ## numbers -/
theorem wr_u8m (a : Int) : wr .u8 a = a % 256 := by
 cases a with
 | ofNat n => show Int.ofNat (n % 256) = _; simp
 | negSucc n => show Int.ofNat (256 - 1 - n % 256) = _; rw [Int.negSucc_eq]; simp only [Int.ofNat_eq_natCast]; omega
section
variable {X : Cx} {tb : List (Nat × TE)} (E : Env X.c tb) {o : Oper} {L : List (Nat × AV)} {h : Heap}
theorem opA_shift {x y : Operand} {op : BinOp} {t u : Nat} {kk kj : IntKind} {a b : Int} {v : AV} (ho : o.op = .binOp op t x y u) (hx : evL L x = some (.int kk a)) (hy : evL L y = some (.int kj b)) (hs : op = .shl ∨ op = .shr) (hv : shiftOp op kk a b = some v) : Hop X L h o v h := fun e he => by
 rw [ho]; simp only [opA]; rw [he.ev hx, he.ev hy]
 have : oBinX X.c op t (constB x y) (.int kk a) (.int kj b) = shiftOp op kk a b := by
  unfold oBinX oBin
  rcases hs with rfl | rfl <;> simp only []
 rw [this, hv]; rfl
include E in
theorem Hop.convU8 {s t : Nat} {x : Operand} {k1 : IntKind} {a : Int} {es e : TE} (ho : o.op = .convert s t x) (hx : evL L x = some (.int k1 a)) (hs : lkT tb s = some es) (ht : lkT tb t = some e) (hk : e.k = .int .u8) : Hop X L h o (.int .u8 (a % 256)) h := fun e' he => by
 obtain ⟨d, h1, _⟩ := (E.t s es hs).kd
 have h2 := (E.t t e ht).it hk
 rw [ho]; simp only [opA]; rw [he.ev hx]
 simp only [oConvert, h1, h2, wr_u8m, valH]
/-! ## cuts, texts -/
include E in
theorem Hop.cut {α : Type} {t el : Nat} {x lo hi : Operand} {z : Nat} {enc : α → List AV} {l : List α} {kk kj : IntKind} {a b : Int} {e s : TE} (ho : o.op = .slice t x (some lo) (some hi) none) (hx : evL L x = some (dsl z enc l)) (hlo : evL L lo = some (.int kk a)) (hhi : evL L hi = some (.int kj b))
  (ht : lkT tb t = some e) (hk : e.k = .slice el) (hs : lkT tb el = some s) (hz : Nat.beq s.s z = true) (henc : ∀ a, (enc a).length = z) (hr : 0 ≤ a ∧ a ≤ b ∧ b ≤ l.length) : Hop X L h o (dsl z enc ((l.drop a.toNat).take (b.toNat - a.toNat))) h := fun e' he => by
 have h1 := (E.t t e ht).sl hk
 have h2 := (E.t el s hs).size
 rw [ho]; simp only [opA, evo]; rw [he.ev hx, he.ev hlo, he.ev hhi]
 have : oSlice X.c t (dsl z enc l) (some (.int kk a)) (some (.int kj b)) none = some (dsl z enc ((l.drop a.toNat).take (b.toNat - a.toNat))) := by
  simp only [oSlice, h1, h2, dsl, hz, cutRsl, optInt, upTo_of (show 0 ≤ b ∧ b ≤ (l.length : Nat) by omega), upTo_of (show 0 ≤ a ∧ a ≤ (b.toNat : Nat) by omega)]
  rw [flat_drop henc, flat_take henc, List.length_take, List.length_drop, Nat.min_eq_left (by omega)]
 simp only [oSliceH, this, Px.val]
theorem bytesA_enc : ∀ l : List UInt8, bytesA (l.flatMap encU) = some (l.map UInt8.toNat)
 | [] => rfl
 | c :: l => by
  have ih := bytesA_enc l
  show byte1 (.int .u8 (c.toNat : Int)) (bytesA (l.flatMap encU)) = _
  rw [ih]
  have := c.toNat_lt
  show byte1 (.int .u8 (Int.ofNat c.toNat)) _ = _
  unfold byte1
  simp only []
  first
   | rfl
   | (rw [show Nat.ble (c.toNat + 1) 256 = true from Nat.ble_eq_true_of_le (by omega)]; rfl)
include E in
theorem Hop.str {s t el : Nat} {x : Operand} {l : List UInt8} {es e ee : TE} (ho : o.op = .convert s t x) (hx : evL L x = some (dsl 1 encU l)) (hst : lkT tb s = some es) (hks : es.k = .slice el) (hel : lkT tb el = some ee) (hkel : ee.k = .int .u8) (ht : lkT tb t = some e) (hk : e.k = .str) : Hop X L h o (sA l) h := fun e' he => by
 have h1 := (E.t t e ht).st hk
 have h2 := (E.t s es hst).sl hks
 have h3 := (E.t el ee hel).it hkel
 rw [ho]; simp only [opA]; rw [he.ev hx]
 simp only [dsl, oConvert, h1, h2, h3, bytesA_enc, valH, Nat.beq_refl]; rfl
include E in
theorem Hop.strN {s t el : Nat} {x : Operand} {es e ee : TE} (ho : o.op = .convert s t x) (hx : evL L x = some .nilsl) (hst : lkT tb s = some es) (hks : es.k = .slice el) (hel : lkT tb el = some ee) (hkel : ee.k = .int .u8) (ht : lkT tb t = some e) (hk : e.k = .str) : Hop X L h o (sA []) h := fun e' he => by
 have h1 := (E.t t e ht).st hk
 have h2 := (E.t s es hst).sl hks
 have h3 := (E.t el ee hel).it hkel
 rw [ho]; simp only [opA]; rw [he.ev hx]
 simp only [oConvert, h1, h2, h3, valH]; rfl
end
end Go.Px
end
section
namespace Go.Px
section
variable {X : Cx} {o : Oper} {L : List (Nat × AV)} {h : Heap}
theorem Hop.convB {tb : List (Nat × TE)} (E : Env X.c tb) {s t : Nat} {x : Operand} {k1 : IntKind} {a : Int} {b : UInt8} {es e : TE} (ho : o.op = .convert s t x) (hx : evL L x = some (.int k1 a)) (hs : lkT tb s = some es) (ht : lkT tb t = some e) (hk : e.k = .int .u8) (hab : a % 256 = (b.toNat : Int)) : Hop X L h o (.int .u8 (b.toNat : Int)) h := by
 rw [← hab]; exact Hop.convU8 E ho hx hs ht hk
end
end Go.Px
end
section
namespace Go.Px
section
variable {X : Cx} {o : Oper} {L : List (Nat × AV)} {h : Heap}
theorem Hop.gtrF {x y : Operand} {t u : Nat} {kk : IntKind} {a b : Int} (ho : o.op = .binOp .gtr t x y u) (hx : evL L x = some (.int kk a)) (hy : evL L y = some (.int kk b)) (hr : ¬ b < a) : Hop X L h o (.bool false) h := by
 have := Hop.gtr (X := X) (h := h) ho hx hy; rwa [bd_no hr] at this
theorem Hop.gtrT {x y : Operand} {t u : Nat} {kk : IntKind} {a b : Int} (ho : o.op = .binOp .gtr t x y u) (hx : evL L x = some (.int kk a)) (hy : evL L y = some (.int kk b)) (hr : b < a) : Hop X L h o (.bool true) h := by
 have := Hop.gtr (X := X) (h := h) ho hx hy; rwa [bd_of hr] at this
theorem Hop.eqlF {x y : Operand} {t u : Nat} {kk : IntKind} {a b : Int} (ho : o.op = .binOp .eql t x y u) (hx : evL L x = some (.int kk a)) (hy : evL L y = some (.int kk b)) (hr : ¬ a = b) : Hop X L h o (.bool false) h := by
 have := Hop.eql (X := X) (h := h) ho hx hy; rwa [bd_no hr] at this
theorem Hop.eqlT {x y : Operand} {t u : Nat} {kk : IntKind} {a b : Int} (ho : o.op = .binOp .eql t x y u) (hx : evL L x = some (.int kk a)) (hy : evL L y = some (.int kk b)) (hr : a = b) : Hop X L h o (.bool true) h := by
 have := Hop.eql (X := X) (h := h) ho hx hy; rwa [bd_of hr] at this
theorem Hop.neqF {x y : Operand} {t u : Nat} {kk : IntKind} {a b : Int} (ho : o.op = .binOp .neq t x y u) (hx : evL L x = some (.int kk a)) (hy : evL L y = some (.int kk b)) (hr : a = b) : Hop X L h o (.bool false) h := by
 have := Hop.neq (X := X) (h := h) ho hx hy; rwa [bd_of hr] at this
theorem Hop.lssF {x y : Operand} {t u : Nat} {kk : IntKind} {a b : Int} (ho : o.op = .binOp .lss t x y u) (hx : evL L x = some (.int kk a)) (hy : evL L y = some (.int kk b)) (hr : ¬ a < b) : Hop X L h o (.bool false) h := by
 have := Hop.lss (X := X) (h := h) ho hx hy; rwa [bd_no hr] at this
theorem Hop.neSF {t u : Nat} {x y : Operand} {a b : List UInt8} (ho : o.op = .binOp .neq t x y u) (hx : evL L x = some (sA a)) (hy : evL L y = some (sA b)) (hr : a = b) : Hop X L h o (.bool false) h := by
 have := Hop.neS (X := X) (h := h) ho hx hy; rwa [bd_of hr] at this
end
end Go.Px
end
section
namespace Go.Px
section
variable {X : Cx} {tb : List (Nat × TE)} (E : Env X.c tb) {sz : Nat} {rd : Option Nat} {all : Array Oper} {o : Oper} {rest : List Oper} {k : List It} {L : List (Nat × AV)} {h : Heap} {m : List Nat} {Q : Post}
include E
end
theorem wk_refl {h : Heap} : ∀ l : List AV, wkA h l l
 | [] => trivial
 | a :: l => ⟨.inl rfl, wk_refl l⟩
theorem wk_eq {h : Heap} {l m : List AV} (e : l = m) : wkA h l m := e ▸ wk_refl l
end Go.Px
end
section
namespace Go.Px
section
variable {X : Cx} {tb : List (Nat × TE)} (E : Env X.c tb) {sz : Nat} {rd : Option Nat} {all : Array Oper} {o : Oper} {rest : List Oper} {k : List It} {L : List (Nat × AV)} {h : Heap} {m : List Nat} {Q : Post}
include E
end
end Go.Px
end
section
namespace Go.Px
def selL (base : List (Nat × AV)) (D : Nat) : List (Nat × Nat × Nat × AV) → List (Nat × AV)
 | [] => base
 | (i, u, p) :: r => match bitB (2 * D + 1) i with | true => (match bitB (2 * D + 1) u with | true => selL base D r | false => p :: selL base D r) | false => selL base D r
theorem TriOps.mono {X : Cx} {sz : Nat} {rd : Option Nat} {all : Array Oper} {rest : List Oper} {s : St} {K K' : St → Prop} (h : TriOps X sz rd all rest s K) (g : ∀ s', K s' → K' s') : TriOps X sz rd all rest s K' :=
 fun is his ro ρ w a Q' h1 h2 h3 h4 h5 => h is his ro ρ w a Q' h1 h2 h3 h4 (fun s' a' w' ρ' q => h5 s' a' w' ρ' (g s' q))
def eqN : List Nat → List Nat → Bool
 | [], [] => true
 | a :: l, b :: r => Nat.beq a b && eqN l r
 | _, _ => false
theorem eqN_eq : ∀ {l r : List Nat}, eqN l r = true → l = r
 | [], [], _ => rfl
 | a :: l, b :: r, h => by
  have h : (Nat.beq a b && eqN l r) = true := h
  rw [Bool.and_eq_true] at h
  rw [beqT h.1, eqN_eq h.2]
 | [], _ :: _, h => by cases h
 | _ :: _, [], h => by cases h
noncomputable def lvChk (ops : List Oper) (Df : Nat) : List (List (Nat × List Nat)) → Bool
 | [] => false
 | l :: r => match r with
  | [] => l.all fun p => Nat.beq p.1 Df && eqN (rdy ops p.1) []
  | l2 :: _ => (l.all fun p => (match p.2 with | [] => false | _ :: _ => true) && eqN (rdy ops p.1) p.2 && p.2.all fun i => l2.any fun E => Nat.beq E.1 (orB p.1 (bit1 i))) && lvChk ops Df r
section
variable (X : Cx) (sz : Nat) (rd : Option Nat) (all : Array Oper) (m : List Nat) (Lf : Nat → List (Nat × AV)) (Hf : Nat → Heap)
def DagO (D : Nat) : List Nat → Prop
 | [] => True
 | i :: r => (∃ o, nth1 all.toList i = some o ∧ Ops X sz rd all [o] [] (Lf D) (Hf D) m (Mid (Lf (orB D (bit1 i))) (Hf (orB D (bit1 i))) m)) ∧ DagO D r
def DagL : List (Nat × List Nat) → Prop
 | [] => True
 | p :: r => DagO X sz rd all m Lf Hf p.1 p.2 ∧ DagL r
def DagV : List (List (Nat × List Nat)) → Prop
 | [] => True
 | l :: r => DagL X sz rd all m Lf Hf l ∧ DagV r
end
section
variable {X : Cx} {sz : Nat} {rd : Option Nat} {all : Array Oper} {m : List Nat} {Lf : Nat → List (Nat × AV)} {Hf : Nat → Heap}
theorem DagO.at_ {D : Nat} : ∀ {l : List Nat}, DagO X sz rd all m Lf Hf D l → ∀ i ∈ l, ∃ o, nth1 all.toList i = some o ∧ Ops X sz rd all [o] [] (Lf D) (Hf D) m (Mid (Lf (orB D (bit1 i))) (Hf (orB D (bit1 i))) m)
 | [], _, i, hi => by cases hi
 | j :: r, h, i, hi => by
  rcases List.mem_cons.1 hi with rfl | hi
  ·exact h.1
  ·exact DagO.at_ h.2 i hi
theorem DagL.at_ : ∀ {l : List (Nat × List Nat)}, DagL X sz rd all m Lf Hf l → ∀ p ∈ l, DagO X sz rd all m Lf Hf p.1 p.2
 | [], _, i, hi => by cases hi
 | j :: r, h, i, hi => by
  rcases List.mem_cons.1 hi with rfl | hi
  ·exact h.1
  ·exact DagL.at_ h.2 i hi
theorem dag_run {Df : Nat} : ∀ (Lv : List (List (Nat × List Nat))) (l : List (Nat × List Nat)), lvChk all.toList Df (l :: Lv) = true → DagV X sz rd all m Lf Hf (l :: Lv) → ∀ p ∈ l, Go X sz rd [] (Lf p.1) (Hf p.1) m (AnyQ X sz rd all Lv.length p.1 [] (Mid (Lf Df) (Hf Df) m))
 | [], l, hc, _, p, hD => by
  have hc : (l.all fun p => Nat.beq p.1 Df && eqN (rdy all.toList p.1) []) = true := hc
  have := List.all_eq_true.1 hc p hD
  rw [Bool.and_eq_true] at this
  obtain ⟨h1, h2⟩ := this
  rw [beqT h1] at h2 ⊢
  exact Go.anyEnd (eqN_eq h2) (Go.nil fun e he => ⟨rfl, e, rfl, he⟩)
 | l2 :: r, l, hc, H, p, hD => by
  have hc : ((l.all fun p => (match p.2 with | [] => false | _ :: _ => true) && eqN (rdy all.toList p.1) p.2 && p.2.all fun i => l2.any fun E => Nat.beq E.1 (orB p.1 (bit1 i))) && lvChk all.toList Df (l2 :: r)) = true := hc
  rw [Bool.and_eq_true] at hc
  obtain ⟨hc1, hc2⟩ := hc
  have ih := dag_run r l2 hc2 H.2
  have hq := List.all_eq_true.1 hc1 p hD
  rw [Bool.and_eq_true, Bool.and_eq_true] at hq
  obtain ⟨⟨q1, q0⟩, q2⟩ := hq
  have hO := DagL.at_ H.1 p hD
  have q0 := eqN_eq q0
  obtain ⟨D, rs⟩ := p
  cases rs with
  | nil => cases q1
  | cons i0 r0 =>
   refine Go.anyStep (ready_ne q0) fun i hi => ?_
   rw [q0] at hi
   obtain ⟨o, ho, n⟩ := hO.at_ i hi
   refine ⟨o, ho, ⟨fun e he => (n.run e he).mono fun s' q => ?_⟩⟩
   have q3 := List.all_eq_true.1 q2 i hi
   obtain ⟨E, hE, hE2⟩ := List.any_eq_true.1 q3
   have g := ih E hE
   rw [beqT hE2] at g
   obtain ⟨_, e', rfl, he'⟩ : Mid (Lf (orB D (bit1 i))) (Hf (orB D (bit1 i))) m .normal s' := q
   exact g.run e' he'
theorem Go.dag {k : List It} {L : List (Nat × AV)} {h : Heap} {Q : Post} {id : Nat} (Df : Nat) (hm : X.c.P.follows .mixedOrders = true) (Lf : Nat → List (Nat × AV)) (Hf : Nat → Heap) (rs : List Nat) (Lv : List (List (Nat × List Nat))) (hc : lvChk all.toList Df ([(0, rs)] :: Lv) = true) (hn : Nat.beq Lv.length all.toList.length = true) (hL : SubL L (Lf 0)) (hh : h = Hf 0)
  (H : DagV X sz rd all m Lf Hf ([(0, rs)] :: Lv)) (n2 : Go X sz rd k (Lf Df) (Hf Df) m Q) : Go X sz rd (.code (.region id all true) :: k) L h m Q := by
 subst hh
 refine Go.mid (Lf Df) (Hf Df) (Go.anyD hm ?_) n2
 have := dag_run Lv [(0, rs)] hc H (0, rs) (List.mem_singleton.2 rfl)
 rw [beqT hn] at this
 exact Go.sub hL this
theorem Ops.midE {L L' : List (Nat × AV)} {h : Heap} (hs : SubL L L') : Ops X sz rd all [] [] L h m (Mid L' h m) := Ops.nil (Go.midE hs)
theorem Ops.midQ {L L' : List (Nat × AV)} {h : Heap} {bs : List AB} {N : Nat} (hg : ∀ i r, X.c.g0.get i ≠ .gl r) (hN : bs.length = N) (hs : SubL L L') (hlow : lowL N L' = true) (hn : Nat.ble N h.nxt = true) (hb : getsP h bs 0) (hbl : lowsP N bs)
  (hm : (m.all fun i => Nat.ble (i + 1) N) = true) (hrd : rdLow N rd = true) (hG : lowsB N X.gv = true := by rfl) (hz : X.g = none ∨ Nat.ble 2 N = true := by first | exact .inl rfl | exact .inr rfl) : Ops X sz rd all [] [] L h m (Mid L' (hq N bs) m) := by
 subst hN
 exact Ops.change (Chg.cut bs hg hs hlow hn hb hbl hm hrd hG hz) (Ops.nil (Go.nil fun e he => ⟨rfl, e, rfl, he⟩))
end
end Go.Px
end
section
namespace Go.Px
end Go.Px
end
section
namespace Go.Px
theorem Hop.lssT {X : Cx} {o : Oper} {L : List (Nat × AV)} {h : Heap} {x y : Operand} {t u : Nat} {kk : IntKind} {a b : Int} (ho : o.op = .binOp .lss t x y u) (hx : evL L x = some (.int kk a)) (hy : evL L y = some (.int kk b)) (hr : a < b) : Hop X L h o (.bool true) h := by
 have := Hop.lss (X := X) (h := h) ho hx hy; rwa [bd_of hr] at this
end Go.Px
end
section
namespace Go.Px
def BlkW (h : Heap) (i : Nat) (b : AB) : Prop := b = .none ∨ h.get i = b ∨ ∃ r s, b = .row r ∧ h.get i = .row s ∧ RowLe r s ∧ r.root = s.root
def BlksW (h : Heap) : List AB → Nat → Prop
 | [], _ => True
 | b :: r, i => BlkW h i b ∧ BlksW h r (i + 1)
theorem BlksW.at_ {h : Heap} : ∀ {bs : List AB} {n j : Nat} {b : AB}, BlksW h bs n → bs[j]? = some b → BlkW h (n + j) b
 | [], n, j, b, _, e => by simp at e
 | x :: r, n, 0, b, ⟨a, _⟩, e => by simp at e; subst e; exact a
 | x :: r, n, j + 1, b, ⟨_, a⟩, e => by
  have := BlksW.at_ (bs := r) (n := n + 1) (j := j) (b := b) a (by simpa using e)
  rwa [show n + 1 + j = n + (j + 1) by omega] at this
def plainBs : List AB → Bool
 | [] => true
 | .arr _ _ _ _ :: _ => false
 | .gl _ :: _ => false
 | _ :: r => plainBs r
theorem plain_at : ∀ {bs : List AB} {i : Nat} {b : AB}, plainBs bs = true → bs[i]? = some b → (∀ t z n l, b ≠ .arr t z n l) ∧ ∀ r, b ≠ .gl r
 | [], i, b, _, e => by simp at e
 | x :: r, 0, b, h, e => by
  simp at e; subst e
  cases x <;> simp_all [plainBs]
 | x :: r, i + 1, b, h, e => by
  refine plain_at (bs := r) (i := i) ?_ (by simpa using e)
  cases x <;> simp_all [plainBs]
theorem hq_plain {N : Nat} {bs : List AB} (h : plainBs bs = true) (i : Nat) : (∀ t z n l, (hq N bs).get i ≠ .arr t z n l) ∧ ∀ r, (hq N bs).get i ≠ .gl r := by
 rw [hq_get]
 cases e : bs[i]? with
 | none => exact ⟨fun _ _ _ _ q => by simp at q, fun _ q => by simp at q⟩
 | some b => exact plain_at h e
theorem weak_hq {h : Heap} {N : Nat} {bs : List AB} (hN : h.nxt = N) (hb : BlksW h bs 0) : Weak0 (hq N bs) h := by
 have ht : ∀ q, (hq N bs).tip q = none := fun q => get_leaf none q
 refine ⟨hN.symm, fun i => ?_, fun q => .inl (ht q)⟩
 rw [BlkLe, hq_get]
 cases e : bs[i]? with
 | none => exact .inl ⟨rfl, fun s q _ _ => ht q⟩
 | some b =>
  have := hb.at_ e
  rw [Nat.zero_add] at this
  rcases this with r | r | ⟨r, s, r1, r2, r3, r4⟩
  ·subst r; exact .inl ⟨rfl, fun s q _ _ => ht q⟩
  ·exact .inr (.inl (by rw [r]; rfl))
  ·exact .inr (.inr ⟨r, s, by rw [r1]; rfl, r2, r3, .inl r4⟩)
theorem Ops.runQ {X : Cx} {tb : List (Nat × TE)} (E : Env X.c tb) {sz : Nat} {rd : Option Nat} {all : Array Oper} {o : Oper} {rest : List Oper} {k : List It} {L : List (Nat × AV)} {m : List Nat} {Q : Post} {app : App} (happ : AppOk X.c app) {N0 N : Nat} {bs0 bs : List AB} (h0 : plainBs bs0 = true)
  {d : Nat} {cl : Call} {f : Operand} {g : FuncId} {vs : List AV} {v : AV} {h' : Heap} (hd : o.dst = some d) (hs : Nat.ble (d + 1) sz = true) (hw : Want all L o true) (ho : o.op = .call cl) (hc : cl.callee = .value f) (hf : evL L f = some (.fn (.func g) [] [])) (hv : evsL L cl.args.toList = some vs)
  (hrun : app (.f g) vs (hq N0 bs0) = .ok v h') (hN : h'.nxt = N) (hb : BlksW h' bs 0) (h1 : plainBs bs = true) (nx : Ops X sz rd all rest k ((d, v) :: L) (hq N bs) m Q) : Ops X sz rd all (o :: rest) k L (hq N0 bs0) m Q := ⟨fun e0 he => by
 refine TriOps.cons (hw e0 he) (K := fun s' => RunK X sz rd k Q .normal s') ?_
 intro ro ρ w a next Q' g1 p h3 h4 h5
 refine ⟨fun _ _ => trivial, ?_⟩
 rw [show (wideR ro).round = ro from rfl, Oper.semAt_eq ro a.eval o (by rw [ho]; intro d q; cases q)]
 have hfv' := ev_ok h3 f
 rw [he.ev hf] at hfv'
 simp only [VR, VRs, FR] at hfv'
 obtain ⟨f', F, C, e1, rfl, rfl, e4⟩ := hfv'
 subst e1
 have hargs := evs_ok h3 cl.args.toList
 rw [he.evs hv] at hargs
 obtain ⟨nx', w1, q1, q2⟩ := happ (.f g) vs _ v h' hrun ρ w (cl.args.toList.map a.eval) p.hr p.wf p.fr hargs
 have hrun' : (execOp a.eval o).run X.c.P w = .ok nx' w1 := by
  rw [← q1]
  simp only [execOp, ho, resolve, hc, e4, Deferred.ofValue, Sem.run_bind, Sem.run_pure, Result.andThen_ok, invoke]
  congr 2
  apply Array.ext'; simp
 rw [hrun']
 refine uponIn_of_next q2 fun z w' ⟨ρ', gd, hz⟩ => ?_
 have gd' := gd.weak0 (weak_hq hN hb) (fun i r e => absurd e ((hq_plain h0 i).2 r))
 have pp := p.good gd' (fun i t z n l e => absurd e ((hq_plain h1 i).1 t z n l))
 exact h5 v ⟨e0, _, m⟩ z w' ρ' ⟨e0.set und d v, by rw [hd]; exact setD_some hs, nx.run _ (he.set d v)⟩ (g1.mono gd'.sub) pp (h3.mono gd'.sub) (h4.mono gd'.sub) hz⟩
/-! ## maps -/
theorem Hop.lookY {X : Cx} {o : Oper} {L : List (Nat × AV)} {h : Heap} {t kt vt id i b clock : Nat} {x kk : Operand} {key v : AV} {es : List (AV × AV × Nat)} (ho : o.op = .lookup t x kk true) (hx : evL L x = some (.mp id)) (hk : evL L kk = some key) (hu : X.c.under t = some (.map kt vt)) (hok : okKey X.c kt key = true)
  (hg : h.get id = .map es clock) (hf : findA key es 0 = some (some (i, v, b))) : Hop X L h o (.tup [v, .bool true]) h := fun e he => by
 rw [ho]; simp only [opA]; rw [he.ev hx, he.ev hk]
 simp only [oLookup, hu, hok, lookFind, hg, hf, lookAns, okPair, Px.val]
theorem Hop.lookN {X : Cx} {o : Oper} {L : List (Nat × AV)} {h : Heap} {t kt vt id clock : Nat} {x kk : Operand} {key z : AV} {es : List (AV × AV × Nat)} (ho : o.op = .lookup t x kk true) (hx : evL L x = some (.mp id)) (hk : evL L kk = some key) (hu : X.c.under t = some (.map kt vt)) (hok : okKey X.c kt key = true)
  (hg : h.get id = .map es clock) (hf : findA key es 0 = some none) (hz : X.c.zero vt = some z) : Hop X L h o (.tup [z, .bool false]) h := fun e he => by
 rw [ho]; simp only [opA]; rw [he.ev hx, he.ev hk]
 simp only [oLookup, hu, hok, lookFind, hg, hf, lookAns, hz, okPair, Px.val]
theorem keep_map {h : Heap} {id c : Nat} {es : List (AV × AV × Nat)} : ArrKeep h (h.put id (.map es c)) := fun i t z n l e => by
 rw [Heap.get_put] at e
 split at e
 ·cases e
 ·exact ⟨_, e⟩
end Go.Px
end
section
namespace Go.Px
theorem eqN0 {P : Program} {t p' : TypeId} (D : Nat) (hu : P.underlying t = some (.slice p')) (w : World) : (Op.equalIn (D + 1) t (.slice none 0 0) (.slice none 0 0)).run P w = .ok true w := by simp [Op.equalIn, run_underlying hu]
theorem eqN1 {P : Program} {t p' : TypeId} (D : Nat) (hu : P.underlying t = some (.slice p')) (a : Addr) (n C : Nat) (w : World) : (Op.equalIn (D + 1) t (.slice (some a) n C) (.slice none 0 0)).run P w = .ok false w := by simp [Op.equalIn, run_underlying hu]
theorem Ops.nilQ {X : Cx} {tb : List (Nat × TE)} (E : Env X.c tb) {sz : Nat} {rd : Option Nat} {all : Array Oper} {o : Oper} {rest : List Oper} {k : List It} {L : List (Nat × AV)} {h : Heap} {m : List Nat} {Q : Post} {d t u z el : Nat} {x : Operand} {e : TE} (hd : o.dst = some d) (hs : Nat.ble (d + 1) sz = true) (hw : Want all L o true)
  (ho : o.op = .binOp .eql t x (.const (.slice none 0 0)) u) (hx : evL L x = some (.rsl 0 z [])) (ht : lkT tb t = some e) (hk : e.k = .slice el) (nx : ∀ q : Bool, Ops X sz rd all rest k ((d, .bool q) :: L) h m Q) : Ops X sz rd all (o :: rest) k L h m Q := ⟨fun e0 he => by
 refine TriOps.cons (hw e0 he) (K := fun s' => RunK X sz rd k Q .normal s') ?_
 intro ro ρ w a next Q' g1 p g3 g4 g5
 refine ⟨fun _ _ => trivial, ?_⟩
 rw [show (wideR ro).round = ro from rfl, Oper.semAt_eq ro a.eval o (by rw [ho]; intro d q; cases q)]
 have hS : VR ρ (.rsl 0 z []) (a.eval x) := by rw [← he.ev hx]; exact ev_ok g3 x
 obtain ⟨D, hD, hDk⟩ := (E.t t e ht).kd
 have hu : X.c.P.underlying t = some D := under_eq E.k hD
 obtain ⟨p', rfl⟩ : ∃ p', D = .slice p' := by rw [hk] at hDk; cases D <;> simp [tkOf] at hDk; exact ⟨_, rfl⟩
 have key : ∃ q : Bool, (execOp a.eval o).run X.c.P w = .ok (.value (.bool q)) w := by
  simp only [VR] at hS
  obtain ⟨_, ⟨_, hv | ⟨ad, C, hv⟩⟩ | ⟨B, o', C, Ls, hv, hC, hvs, hfz⟩⟩ := hS
  ·refine ⟨true, ?_⟩
   have h1 : ∀ w, (Op.equal t (a.eval x) (.slice none 0 0)).run X.c.P w = .ok true w := fun w => by rw [hv]; exact eqN0 9999 hu w
   rw [hv] at h1
   have hc : a.eval (.const (.slice none 0 0)) = .slice none 0 0 := rfl
   simp only [execOp, ho, hv, hc]
   simp [eqGuard, binOp, h1]
  ·refine ⟨false, ?_⟩
   have h1 : ∀ w, (Op.equal t (a.eval x) (.slice none 0 0)).run X.c.P w = .ok false w := fun w => by rw [hv]; exact eqN1 9999 hu _ _ _ w
   rw [hv] at h1
   have hc : a.eval (.const (.slice none 0 0)) = .slice none 0 0 := rfl
   simp only [execOp, ho, hv, hc]
   simp [eqGuard, binOp, h1]
  ·refine ⟨false, ?_⟩
   have h1 : ∀ w, (Op.equal t (a.eval x) (.slice none 0 0)).run X.c.P w = .ok false w := fun w => by rw [hv]; exact eqN1 9999 hu _ _ _ w
   rw [hv] at h1
   have hc : a.eval (.const (.slice none 0 0)) = .slice none 0 0 := rfl
   simp only [execOp, ho, hv, hc]
   simp [eqGuard, binOp, h1]
 obtain ⟨q, hrun⟩ := key
 rw [hrun]
 exact g5 (.bool q) ⟨e0, h, m⟩ _ w ρ ⟨e0.set und d _, by rw [hd]; exact setD_some hs, (nx q).run _ (he.set d _)⟩ g1 p g3 g4 (by simp only [VR])⟩
end Go.Px
end
section
namespace Go.Px
inductive XK where
 | cmp | idx | cnt | same | sub (g : Nat)
noncomputable section
def bytesV (h : Heap) (v : AV) : Option (List Nat) :=
 match v with
 | .str l => some l
 | .nilsl => some []
 | .esl _ => some []
 | .sl id off len _ z => (match Nat.beq z 1 with
  | true => (match h.row id with
   | some r => (match Nat.ble (off + len) r.n with | true => bytesA (r.read off len) | false => none)
   | none => none)
  | false => none)
 | _ => none
def cmpN (a : List Nat) : List Nat → Int :=
 List.rec (motive := fun _ => List Nat → Int) (fun b => match b with | [] => .ofNat 0 | _ :: _ => .negSucc 0)
  (fun x _ ih b => match b with
   | [] => .ofNat 1
   | y :: b => (match Nat.ble (x % 256 + 1) (y % 256) with | true => .negSucc 0 | false => (match Nat.ble (y % 256 + 1) (x % 256) with | true => .ofNat 1 | false => ih b))) a
def idxN (c : Nat) (l : List Nat) : Nat → Int :=
 List.rec (motive := fun _ => Nat → Int) (fun _ => .negSucc 0) (fun x _ ih i => match Nat.beq (x % 256) (c % 256) with | true => .ofNat i | false => ih (i + 1)) l
def cntN (c : Nat) (l : List Nat) : Nat := List.rec (motive := fun _ => Nat) 0 (fun x _ r => match Nat.beq (x % 256) (c % 256) with | true => r + 1 | false => r) l
def pre (m : List Nat) : List Nat → Bool :=
 List.rec (motive := fun _ => List Nat → Bool) (fun _ => true)
  (fun x _ ih l => match l with | [] => false | y :: l => (match Nat.beq (x % 256) (y % 256) with | true => ih l | false => false)) m
def findAt (l m : List Nat) : Nat → Int :=
 List.rec (motive := fun _ => Nat → Int) (fun _ => .negSucc 0) (fun x t ih i => match pre m (x :: t) with | true => .ofNat i | false => ih (i + 1)) l
def fitsG (h : Heap) (g n : Nat) : Bool :=
 match glRow h g with
 | some r => (match Nat.ble 1 r.n with
  | true => (match r.get 0 with
   | .int k x => (match k with | .i64 => (match ilt x (.ofNat n) with | true => false | false => true) | _ => false)
   | .big x => Nat.ble n x
   | _ => false)
  | false => false)
 | none => false
def xrun (k : XK) (h : Heap) (args : List AV) : Option AV :=
 match k with
 | .cmp => (match args with
  | [a, b] => (match bytesV h a with
   | some l => (match bytesV h b with | some m => some (.int .i64 (cmpN l m)) | none => none)
   | none => none)
  | _ => none)
 | .idx => (match args with
  | [a, b] => (match b with
   | .int k n => (match k with
    | .u8 => (match bytesV h a with | some l => some (.int .i64 (idxN n.toNat l 0)) | none => none)
    | _ => none)
   | _ => none)
  | _ => none)
 | .cnt => (match args with
  | [a, b] => (match b with
   | .int k n => (match k with
    | .u8 => (match bytesV h a with | some l => some (.int .i64 (.ofNat (cntN n.toNat l))) | none => none)
    | _ => none)
   | _ => none)
  | _ => none)
 | .same => (match args with | [a] => some a | _ => none)
 | .sub g => (match args with
  | [a, b] => (match a with
   | .str l => (match b with
    | .str m => (match Nat.ble 2 m.length with
     | true => (match Nat.ble l.length 1000000 with
      | true => (match fitsG h g m.length with | true => some (.int .i64 (findAt l m 0)) | false => none)
      | false => none)
     | false => none)
    | _ => none)
   | _ => none)
  | _ => none)
def tabOf (xs : List (FuncId × XK)) : T (Option XK) := List.rec (motive := fun _ => T (Option XK)) .leaf (fun p _ t => t.set none p.1 (some p.2)) xs
def extT (xs : List (FuncId × XK)) : Ext := fun _ f _ args h =>
 match (tabOf xs).get none f with
 | some k => (match xrun k h args with | some v => .ok v h | none => .bad ["extern"])
 | none => .bad ["extern"]
end
def rowOf : XK → Array Value → Sem Value
 | .cmp => Extern.BytealgCompare.compare
 | .idx => Extern.BytealgIndexByte.indexByte
 | .cnt => Extern.BytealgCount.count
 | .same => Extern.AbiNoEscape.same
 | .sub _ => Extern.BytealgIndex.index
def XkOk (P : Program) : XK → Prop
 | .sub g => P.globals.findIdx? (·.name == "internal/bytealg.MaxLen") = some g
 | _ => True
def XsOk (P : Program) : List (FuncId × XK) → Prop
 | [] => True
 | (f, k) :: xs => (∃ fn, P.funcs[f]? = some fn ∧ (fn.name == "runtime.NumGoroutine") = false ∧ fn.body.isNone = true ∧ Extern.findNext fn = none ∧ Extern.find fn = some (rowOf k) ∧ XkOk P k) ∧ XsOk P xs
theorem tabOf_mem : ∀ {xs : List (FuncId × XK)} {f : FuncId} {k : XK}, (tabOf xs).get none f = some k → (f, k) ∈ xs
 | [], f, k, h => by
  have : T.get none (.leaf : T (Option XK)) f = some k := h
  rw [get_leaf] at this; cases this
 | p :: xs, f, k, h => by
  have h' : T.get none ((tabOf xs).set none p.1 (some p.2)) f = some k := h
  rw [get_set] at h'
  by_cases e : f = p.1
  ·rw [if_pos e] at h'
   cases h'
   rw [e]; exact List.mem_cons_self
  ·rw [if_neg e] at h'
   exact List.mem_cons_of_mem _ (tabOf_mem h')
theorem XsOk.at {P : Program} : ∀ {xs : List (FuncId × XK)}, XsOk P xs → ∀ {f k}, (f, k) ∈ xs → ∃ fn, P.funcs[f]? = some fn ∧ (fn.name == "runtime.NumGoroutine") = false ∧ fn.body.isNone = true ∧ Extern.findNext fn = none ∧ Extern.find fn = some (rowOf k) ∧ XkOk P k
 | [], _, f, k, h => by cases h
 | p :: xs, hx, f, k, h => by
  rcases List.mem_cons.1 h with e | h
  ·subst e; exact hx.1
  ·exact XsOk.at hx.2 h
theorem loadBytes_ok {P : Program} {w : World} {B : Nat} : ∀ (ns : List Int) (off : Nat) (acc : ByteArray), (∀ (j : Nat) v, (ns.map (Value.int .u8))[j]? = some v → w.cell? ⟨B, off + j, none⟩ = some v) →
  (Extern.Bytes.loadBytes ⟨B, off, none⟩ ns.length acc).run P w = .ok ⟨acc.data ++ ((ns.map Int.toNat).map UInt8.ofNat).toArray⟩ w
 | [], off, acc, h => by simp [Extern.Bytes.loadBytes]
 | n :: ns, off, acc, h => by
  have h0 : w.cell? ⟨B, off, none⟩ = some (.int .u8 n) := by simpa using h 0 (.int .u8 n) rfl
  have ih := loadBytes_ok (P := P) ns (off + 1) (acc.push n.toNat.toUInt8) (fun j v hv => by
   have := h (j + 1) v (by simpa using hv)
   rw [show off + 1 + j = off + (j + 1) by omega]; exact this)
  simp only [List.length_cons, Extern.Bytes.loadBytes, Sem.run_bind, run_load, h0, Result.andThen_ok, add_off]
  rw [ih]
  simp [ByteArray.push, Nat.toUInt8]
theorem bytesOf_ok {P : Program} {ρ : Map} {h : Heap} {w : World} (hr : HR ρ h w) {v : AV} {X : Value} {l : List Nat} (e : bytesV h v = some l) (hx : VR ρ v X) : (Extern.Bytes.bytesOf X).run P w = .ok (bs l) w := by
 unfold bytesV at e
 split at e
 ·cases e; simp only [VR] at hx; subst hx; simp [Extern.Bytes.bytesOf]
 ·cases e; simp only [VR] at hx; subst hx; simp [Extern.Bytes.bytesOf]; rfl
 ·cases e
  simp only [VR] at hx
  obtain ⟨B, N, o, C, hp, rfl⟩ := hx
  simp [Extern.Bytes.bytesOf, Extern.Bytes.loadBytes]; rfl
 ·rename_i id off len cap z
  split at e
  ·split at e
   ·rename_i r hrow
    split at e
    ·rename_i hb
     simp only [VR] at hx
     obtain ⟨B, N, C, hp, rfl, _⟩ := hx
     have ro := hr.rowAt hrow hp
     obtain ⟨L, l1, l2, l3⟩ := RowOk.reads ro len off (bleT hb)
     obtain ⟨ns, n1, n2⟩ := bytesA_ok _ L l e l1
     have hlen : ns.length = len := by rw [← l2, n1]; simp
     have := loadBytes_ok (P := P) (w := w) (B := B) ns off ByteArray.empty (fun j v hv => l3 j v (by rw [n1]; exact hv))
     rw [hlen, n2] at this
     simp only [Extern.Bytes.bytesOf]
     rw [this]
     have he0 : ByteArray.empty.data = #[] := rfl
     rw [he0]
     simp [bs]
    ·cases e
   ·cases e
  ·cases e
 ·cases e
theorem cmpN_eq : ∀ (a b : List Nat), cmpN a b = Lib.compareBytes (a.map UInt8.ofNat) (b.map UInt8.ofNat)
 | [], [] => rfl
 | [], _ :: _ => rfl
 | _ :: _, [] => rfl
 | x :: a, y :: b => by
  have e : cmpN (x :: a) (y :: b) = (match Nat.ble (x % 256 + 1) (y % 256) with | true => .negSucc 0 | false => (match Nat.ble (y % 256 + 1) (x % 256) with | true => .ofNat 1 | false => cmpN a b)) := rfl
  rw [e, cmpN_eq a b]
  simp only [List.map_cons, Lib.compareBytes]
  have hxy : (UInt8.ofNat x < UInt8.ofNat y) ↔ x % 256 < y % 256 := by rw [UInt8.lt_iff_toNat_lt]; simp
  have hyx : (UInt8.ofNat y < UInt8.ofNat x) ↔ y % 256 < x % 256 := by rw [UInt8.lt_iff_toNat_lt]; simp
  by_cases h1 : x % 256 < y % 256
  ·rw [if_pos (hxy.2 h1), (ble_iff _ _).2 (show x % 256 + 1 ≤ y % 256 by omega)]; rfl
  ·rw [if_neg (fun q => h1 (hxy.1 q)), ble_not (show ¬ x % 256 + 1 ≤ y % 256 by omega)]
   simp only []
   by_cases h2 : y % 256 < x % 256
   ·rw [if_pos (hyx.2 h2), (ble_iff _ _).2 (show y % 256 + 1 ≤ x % 256 by omega)]; rfl
   ·rw [if_neg (fun q => h2 (hyx.1 q)), ble_not (show ¬ y % 256 + 1 ≤ x % 256 by omega)]
theorem beq_u8 (x c : Nat) : Nat.beq (x % 256) (c % 256) = (UInt8.ofNat x == UInt8.ofNat c) := by
 by_cases h : x % 256 = c % 256
 ·have : UInt8.ofNat x = UInt8.ofNat c := by apply UInt8.toNat_inj.1; simpa using h
  rw [this, h]; simp
 ·have : UInt8.ofNat x ≠ UInt8.ofNat c := fun q => h (by have := congrArg UInt8.toNat q; simpa using this)
  rw [beqF h]; simp [this]
theorem idxN_eq (c : Nat) : ∀ (l : List Nat) (i : Nat), idxN c l i = (if Lib.indexByte (l.map UInt8.ofNat) (UInt8.ofNat c) = -1 then -1 else Lib.indexByte (l.map UInt8.ofNat) (UInt8.ofNat c) + (i : Int))
 | [], i => rfl
 | x :: l, i => by
  have e : idxN c (x :: l) i = (match Nat.beq (x % 256) (c % 256) with | true => .ofNat i | false => idxN c l (i + 1)) := rfl
  rw [e, idxN_eq c l (i + 1), beq_u8]
  have hge := Lib.indexByte_ge (l.map UInt8.ofNat) (UInt8.ofNat c)
  simp only [List.map_cons, Lib.indexByte]
  cases hb : (UInt8.ofNat x == UInt8.ofNat c) with
  | true => simp
  | false =>
   simp only [Bool.false_eq_true, if_false]
   by_cases h1 : Lib.indexByte (l.map UInt8.ofNat) (UInt8.ofNat c) = -1
   ·simp [h1]
   ·have h2 : (Lib.indexByte (l.map UInt8.ofNat) (UInt8.ofNat c) == -1) = false := by simpa using h1
    rw [if_neg h1, h2]
    simp only [Bool.false_eq_true, if_false]
    rw [if_neg (by omega)]
    push_cast
    omega
theorem cntN_eq (c : Nat) : ∀ (l : List Nat), cntN c l = Lib.countByte (l.map UInt8.ofNat) (UInt8.ofNat c)
 | [] => rfl
 | x :: l => by
  have e : cntN c (x :: l) = (match Nat.beq (x % 256) (c % 256) with | true => cntN c l + 1 | false => cntN c l) := rfl
  rw [e, cntN_eq c l, beq_u8]
  unfold Lib.countByte
  rw [List.map_cons, List.count_cons]
  cases hb : (UInt8.ofNat x == UInt8.ofNat c) <;> simp
theorem pre_eq : ∀ (m l : List Nat), pre m l = (m.map UInt8.ofNat).isPrefixOf (l.map UInt8.ofNat)
 | [], l => by cases l <;> rfl
 | x :: m, [] => rfl
 | x :: m, y :: l => by
  have e : pre (x :: m) (y :: l) = (match Nat.beq (x % 256) (y % 256) with | true => pre m l | false => false) := rfl
  rw [e, beq_u8, pre_eq m l]
  simp only [List.map_cons, List.isPrefixOf]
  cases (UInt8.ofNat x == UInt8.ofNat y) <;> simp
theorem findAt_eq (m : List Nat) (hm : m ≠ []) : ∀ (l : List Nat) (i : Nat), findAt l m i = (if Lib.index (l.map UInt8.ofNat) (m.map UInt8.ofNat) = -1 then -1 else Lib.index (l.map UInt8.ofNat) (m.map UInt8.ofNat) + (i : Int))
 | [], i => by
  have : Lib.index ([] : List UInt8) (m.map UInt8.ofNat) = -1 := by
   unfold Lib.index
   cases m with
   | nil => exact absurd rfl hm
   | cons x m => simp
  simp only [List.map_nil, this, if_true]
  rfl
 | x :: l, i => by
  have e : findAt (x :: l) m i = (match pre m (x :: l) with | true => .ofNat i | false => findAt l m (i + 1)) := rfl
  have hge := Lib.index_ge (l.map UInt8.ofNat) (m.map UInt8.ofNat)
  rw [e, findAt_eq m hm l (i + 1), pre_eq]
  simp only [List.map_cons, Lib.index]
  cases hb : (m.map UInt8.ofNat).isPrefixOf (UInt8.ofNat x :: l.map UInt8.ofNat) with
  | true => simp
  | false =>
   simp only [Bool.false_eq_true, if_false]
   by_cases h1 : Lib.index (l.map UInt8.ofNat) (m.map UInt8.ofNat) = -1
   ·simp [h1]
   ·have h2 : (Lib.index (l.map UInt8.ofNat) (m.map UInt8.ofNat) == -1) = false := by simpa using h1
    rw [if_neg h1, h2]
    simp only [Bool.false_eq_true, if_false]
    rw [if_neg (by omega)]
    push_cast
    omega
theorem fitsG_ok {ρ : Map} {h : Heap} {w : World} (hr : HR ρ h w) {g n : Nat} (e : fitsG h g n = true) : ∃ m : Int, w.cell? ⟨g, 0, none⟩ = some (.int .i64 m) ∧ (n : Int) ≤ m := by
 unfold fitsG at e
 split at e
 ·rename_i r hg
  split at e
  ·rename_i hn
   obtain ⟨v, v1, v2⟩ := hr.glAt hg 0 (by have := bleT hn; omega)
   split at e
   ·rename_i k x hx
    split at e
    ·split at e
     ·cases e
     ·rename_i hl
      rw [hx] at v2
      simp only [VR] at v2
      subst v2
      rw [ilt_eq] at hl
      exact ⟨x, v1, by simpa using hl⟩
    ·cases e
   ·rename_i x hx
    rw [hx] at v2
    simp only [VR] at v2
    obtain ⟨m, m1, rfl⟩ := v2
    have := bleT e
    exact ⟨m, v1, by omega⟩
   ·cases e
  ·cases e
 ·cases e
theorem xrun_ok {P : Program} {ρ : Map} {h : Heap} {w : World} (hr : HR ρ h w) {k : XK} (hxk : XkOk P k) {args : List AV} {A : List Value} {v : AV} (e : xrun k h args = some v) (hA : VRs ρ args A) :
  ∃ z, (rowOf k A.toArray).run P w = .ok z w ∧ VR ρ v z := by
 unfold xrun at e
 split at e
 ·split at e
  ·rename_i a b
   simp only [VRs] at hA
   obtain ⟨X, _, hx, ⟨Y, _, hy, rfl, rfl⟩, rfl⟩ := hA
   split at e
   ·rename_i l hl
    split at e
    ·rename_i m hm
     cases e
     refine ⟨.int .i64 (cmpN l m), ?_, by simp only [VR]⟩
     show (do pure (goInt (Extern.BytealgCompare.cmp (← Extern.Bytes.bytesOf X) (← Extern.Bytes.bytesOf Y))) : Sem Value).run P w = _
     simp only [Sem.run_bind, bytesOf_ok hr hl hx, bytesOf_ok hr hm hy, Result.andThen_ok, Sem.run_pure, Lib.cmp_eq, cmpN_eq]
     simp [bs, goInt]
    ·cases e
   ·cases e
  ·cases e
 ·split at e
  ·rename_i a b
   split at e
   ·rename_i kk n
    split at e
    ·split at e
     ·rename_i l hl
      cases e
      simp only [VRs] at hA
      obtain ⟨X, _, hx, ⟨Y, _, hy, rfl, rfl⟩, rfl⟩ := hA
      simp only [VR] at hy; subst hy
      refine ⟨.int .i64 (idxN n.toNat l 0), ?_, by simp only [VR]⟩
      show (do
       let b ← Extern.Bytes.bytesOf X
       let c' ← Extern.Bytes.asByte (.int .u8 n)
       match (List.range b.size).find? fun i => b[i]! == c' with
       | some i => pure (goInt i)
       | none => pure (goInt (-1)) : Sem Value).run P w = _
      simp only [Sem.run_bind, bytesOf_ok hr hl hx, Result.andThen_ok, Extern.Bytes.asByte, Sem.run_pure]
      have h1 : firstIdx (bs l) n.toNat.toUInt8 = idxN n.toNat l 0 := by
       rw [Lib.firstIdx_eq, idxN_eq]
       have hb : (bs l).data.toList = l.map UInt8.ofNat := by simp [bs]
       rw [hb]
       have hc : n.toNat.toUInt8 = UInt8.ofNat n.toNat := rfl
       rw [hc]
       split
       ·rename_i h2; rw [h2]
       ·simp
      rw [← h1]
      unfold firstIdx
      generalize (List.range (bs l).size).find? (fun i => (bs l)[i]! == n.toNat.toUInt8) = q
      cases q <;> rfl
     ·cases e
    ·cases e
   ·cases e
  ·cases e
 ·split at e
  ·rename_i a b
   split at e
   ·rename_i kk n
    split at e
    ·split at e
     ·rename_i l hl
      cases e
      simp only [VRs] at hA
      obtain ⟨X, _, hx, ⟨Y, _, hy, rfl, rfl⟩, rfl⟩ := hA
      simp only [VR] at hy; subst hy
      refine ⟨.int .i64 (.ofNat (cntN n.toNat l)), ?_, by simp only [VR]⟩
      have h0 := Lib.run_countString (P := P) (bs l) n w
      have hb : (bs l).data.toList = l.map UInt8.ofNat := by simp [bs]
      rw [hb, show n.toNat.toUInt8 = UInt8.ofNat n.toNat from rfl, ← cntN_eq] at h0
      rw [show (Value.int .i64 (.ofNat (cntN n.toNat l))) = .int .i64 (cntN n.toNat l : Nat) from rfl, ← h0]
      show (do
       let b ← Extern.Bytes.bytesOf X
       let c ← Extern.Bytes.asByte (.int .u8 n)
       pure (goInt (b.foldl (fun n x => if x == c then n + 1 else n) (0 : Nat))) : Sem Value).run P w = (do
       let b ← Extern.Bytes.bytesOf (.string (bs l))
       let c ← Extern.Bytes.asByte (.int .u8 n)
       pure (goInt (b.foldl (fun n x => if x == c then n + 1 else n) (0 : Nat))) : Sem Value).run P w
      have hstr : (Extern.Bytes.bytesOf (.string (bs l))).run P w = .ok (bs l) w := by simp [Extern.Bytes.bytesOf]
      simp only [Sem.run_bind, bytesOf_ok hr hl hx, hstr, Result.andThen_ok]
     ·cases e
    ·cases e
   ·cases e
  ·cases e
 ·split at e
  ·rename_i a
   cases e
   simp only [VRs] at hA
   obtain ⟨X, _, hx, rfl, rfl⟩ := hA
   exact ⟨X, rfl, hx⟩
  ·cases e
 ·rename_i g
  split at e
  ·rename_i a b
   split at e
   ·rename_i l
    split at e
    ·rename_i m
     split at e
     ·rename_i h2
      split at e
      ·rename_i hl
       split at e
       ·rename_i hf
        cases e
        simp only [VRs] at hA
        obtain ⟨X, _, hx, ⟨Y, _, hy, rfl, rfl⟩, rfl⟩ := hA
        simp only [VR] at hx hy
        subst hx; subst hy
        obtain ⟨mx, c1, c2⟩ := fitsG_ok hr hf
        have h2 := bleT h2
        have hl := bleT hl
        refine ⟨.int .i64 (findAt l m 0), ?_, by simp only [VR]⟩
        have h0 := Lib.run_indexString (P := P) (bs l) (bs m) w g mx hxk c1 (by rw [bs_size]; exact h2) (by rw [bs_size]; exact c2) (by rw [bs_size]; omega)
        have hm : m ≠ [] := fun q => by rw [q] at h2; simp at h2
        have e1 : findAt l m 0 = Lib.index (bs l).data.toList (bs m).data.toList := by
         rw [findAt_eq m hm l 0]
         have e2 : ∀ q : List Nat, (bs q).data.toList = q.map UInt8.ofNat := fun q => by simp [bs]
         rw [e2, e2]
         split
         ·rename_i h9; rw [h9]
         ·simp
        rw [e1]
        exact h0
       ·cases e
      ·cases e
     ·cases e
    ·cases e
   ·cases e
  ·cases e
theorem extT_ok {P : Program} {g0 : Heap} {xs : List (FuncId × XK)} (hxs : XsOk P xs) : ExtOk (ctxG P g0) (extT xs) := by
 intro app ha f fn args h v h' he hf hb ρ w A hr wf fr hA
 unfold extT at he
 split at he
 ·rename_i k hk
  split at he
  ·rename_i u hu
   cases he
   obtain ⟨fn', q1, q2, q3, q4, q5, q6⟩ := hxs.at (tabOf_mem hk)
   obtain ⟨z, z1, z2⟩ := xrun_ok (P := P) hr q6 hu hA
   refine ⟨.value z, w, ?_, ρ, Good.refl hr wf, z2⟩
   have := run_callFunc_extern q1 q2 q3 q4 q5 A.toArray w
   show (callFunc f A.toArray).run P w = _
   rw [this, z1]
   rfl
  ·cases he
 ·cases he
end Go.Px
end
section
namespace Go.Px
section
variable {X : Cx} {sz : Nat} {rd : Option Nat} {all : Array Oper} {rest : List Oper} {k : List It} {L : List (Nat × AV)} {h : Heap} {m : List Nat} {Q : Post} {o : Oper}
theorem Hop.nilC {x : Operand} {id off : Nat} (ho : o.op = .nilCheck x) (hx : evL L x = some (.ptr id off)) : Hop X L h o (.ptr id off) h := fun e he => by
 rw [ho]; simp only [opA]; rw [he.ev hx]; rfl
theorem Go.condNp {t : Nat} {c d : Code} {p : Prop} (hb : lkO L t = some (.bool (!bd p))) (hp : p) (g2 : Go X sz rd (.code d :: k) ((t, .bool false) :: L) h m Q) : Go X sz rd (.code (.cond (.tmp t) c d) :: k) L h m Q := Go.condNt hb (fun q => absurd hp q) fun _ => g2
theorem Go.condNn {t : Nat} {c d : Code} {p : Prop} (hb : lkO L t = some (.bool (!bd p))) (hp : ¬ p) (g1 : Go X sz rd (.code c :: k) ((t, .bool true) :: L) h m Q) : Go X sz rd (.code (.cond (.tmp t) c d) :: k) L h m Q := Go.condNt hb (fun _ => g1) fun q => absurd q hp
theorem Ops.gNn {d : Nat} {p : Prop} (hg : gslot all rest = some d) (hb : lkO L d = some (.bool (!bd p))) (hp : ¬ p) (n1 : Ops X sz rd all rest k ((d, .bool true) :: L) h m Q) : Ops X sz rd all rest k L h m Q := Ops.gN hg hb (fun _ => n1) fun q => absurd q hp
end
end Go.Px
end
section
namespace Go.Px
section
variable {X : Cx} {tb : List (Nat × TE)} (E : Env X.c tb) {o : Oper} {L : List (Nat × AV)} {h : Heap}
include E in
theorem Hop.appC0 {cl : Call} {x y : Operand} {t t1 el z : Nat} {e e1 ee : TE} (ho : o.op = .call cl) (hc : cl.callee = .builtin .append) (ha : cl.args.toList = [x, y]) (hts0 : nth1 cl.argTypes.toList 0 = some t) (hts1 : nth1 cl.argTypes.toList 1 = some t1) (hx : evL L x = some .csl) (hy : evL L y = some (.rsl 0 z [])) (ht : lkT tb t = some e) (hk : e.k = .slice el) (hel : lkT tb el = some ee) (hz : Nat.beq ee.s z = true) (hz0 : Nat.beq z 0 = false) (hb : Nat.ble ee.b 1000 = true)
  (ht1 : lkT tb t1 = some e1) (hk1 : (match e1.k with | .slice _ => true | .str => true | _ => false) = true) (hzz : (match ee.z with | .bad => false | v => Nat.beq v.cells.length ee.s) = true) : Hop X L h o .csl h := fun e' he => by
 have hz := beqT hz
 obtain ⟨ie, i1, i2, i3⟩ := (E.t el ee hel).si
 have hnb : ee.z ≠ .bad := fun q => by rw [q] at hzz; cases hzz
 have hzl : ee.z.cells.length = ee.s := by
  cases hv : ee.z <;> rw [hv] at hzz <;> first | (cases hzz; done) | exact beqT hzz
 have hzc : X.c.zcells el = some ee.z.cells := by
  unfold Ctx.zcells
  rw [(E.t el ee hel).z]
  cases hv : ee.z <;> first | exact absurd hv hnb | rfl
 have hu := (E.t t e ht).sl hk
 obtain ⟨d1, u1, u2⟩ := (E.t t1 e1 ht1).kd
 have hu1 := u1
 have hni : ∀ kk, d1 ≠ .int kk := fun kk qq => by
  subst qq
  rw [← u2] at hk1
  cases hk1
 rw [nth1_eq] at hts0 hts1
 have happ : oAppend X.c h t .csl (.rsl 0 z []) = some (.csl, h) := by
  have hbz : Nat.beq ie.size ee.z.cells.length = true := by rw [i2, hzl]; exact Nat.beq_refl _
  have hb0 : Nat.beq ie.size 0 = false := by rw [i2, hz]; exact hz0
  have hbb : Nat.ble ie.bytes 1000 = true := by rw [i3]; exact hb
  have hcz : Nat.beq ie.size z = true := by rw [i2, hz]; exact Nat.beq_refl _
  have hsc : srcCells h (.rsl 0 z []) ie.size = some [] := by
   unfold srcCells
   simp only [hcz]
  unfold oAppend
  simp only [hu, i1, hzc, hbz, hb0, hbb, srcLen, hsc]
  rfl
 rw [ho]; simp only [opA, oCall, hc]
 rw [ha]
 simp only [List.map_cons, List.map_nil, he.ev hx, he.ev hy, oBuiltin, nth_eq, hts0, hts1, hu1]
 cases d1 <;> first | exact absurd rfl (hni _) | (simp only [happ])
theorem Hop.geqF {x y : Operand} {t u : Nat} {kk : IntKind} {a b : Int} (ho : o.op = .binOp .geq t x y u) (hx : evL L x = some (.int kk a)) (hy : evL L y = some (.int kk b)) (hr : ¬ b ≤ a) : Hop X L h o (.bool false) h := by
 have := Hop.geq (X := X) (h := h) ho hx hy; rwa [bd_no hr] at this
theorem Hop.shlI {x y : Operand} {t u k : Nat} {kj : IntKind} {a : Nat} (ho : o.op = .binOp .shl t x y u) (hx : evL L x = some (.int .i64 (a : Int))) (hy : evL L y = some (.int kj (k : Int))) (hk : k < 64) (hr : a * 2 ^ k < 9223372036854775808) : Hop X L h o (.int .i64 ((a * 2 ^ k : Nat) : Int)) h :=
 opA_shift ho hx hy (.inl rfl) (by
  show some (AV.int .i64 (wr .i64 (Int.ofNat (a <<< (Min.min k 64))))) = _
  rw [Nat.min_eq_left (by omega), Nat.shiftLeft_eq, wr_i64 (by simp only [Int.ofNat_eq_natCast]; omega)]
  rfl)
theorem Hop.orI {x y : Operand} {t u a b : Nat} (k : Nat) (ho : o.op = .binOp .or t x y u) (hx : evL L x = some (.int .i64 (a : Int))) (hy : evL L y = some (.int .i64 (b : Int))) (ha : a % 2 ^ k = 0) (hb : b < 2 ^ k) (hr : a + b < 9223372036854775808) : Hop X L h o (.int .i64 ((a + b : Nat) : Int)) h :=
 Hop.bin ho hx hy ⟨by simp, by simp⟩ (by
  have e1 : um .i64 (a : Int) = a := by show ((a : Int) % 18446744073709551616).toNat = a; omega
  have e2 : um .i64 (b : Int) = b := by show ((b : Int) % 18446744073709551616).toNat = b; omega
  simp only [intOp, e1, e2]
  have e3 : Nat.lor a b = a + b := by
   show a ||| b = a + b
   have hn : a = (a / 2 ^ k) <<< k := by rw [Nat.shiftLeft_eq]; have := Nat.div_add_mod a (2 ^ k); rw [ha] at this; rw [Nat.mul_comm]; omega
   have := Nat.shiftLeft_add_eq_or_of_lt (i := k) (b := b) hb (a / 2 ^ k)
   rw [← hn] at this
   exact this.symm
  rw [e3]
  refine congrArg (fun z => some (AV.int .i64 z)) ?_
  rw [wr_i64 (by simp only [Int.ofNat_eq_natCast]; omega)]
  rfl)
end
end Go.Px
end
section
namespace Go.Px
section
variable {K V : Type}
structure KeyE (K : Type) where
 e : K → AV
 eq : ∀ a b : K, keyEq (e a) (e b) = some (bd (a = b))
 dat : ∀ a : K, datB (e a) = true
noncomputable def keyI : KeyE Int := ⟨fun n => .int .i64 n, fun a b => by
 show some (ieq a b) = _
 rw [ieq_dec, bd_dec], fun _ => rfl⟩
variable (ke : KeyE K) (ev : V → AV)
def mE : List (K × V × Nat) → List (AV × AV × Nat)
 | [] => []
 | o :: r => (ke.e o.1, ev o.2.1, o.2.2) :: mE r
noncomputable def mget (k : K) : List (K × V × Nat) → Option V
 | [] => none
 | o :: r => bif bd (k = o.1) then some o.2.1 else mget k r
noncomputable def mset (k : K) (v : V) (n : Nat) : List (K × V × Nat) → List (K × V × Nat)
 | [] => [(k, v, n)]
 | o :: r => bif bd (k = o.1) then (k, v, o.2.2) :: r else o :: mset k v n r
noncomputable def mclk (k : K) (n : Nat) : List (K × V × Nat) → Nat
 | [] => n + 1
 | o :: r => bif bd (k = o.1) then n else mclk k n r
noncomputable def mdel (k : K) : List (K × V × Nat) → List (K × V × Nat)
 | [] => []
 | o :: r => bif bd (k = o.1) then r else o :: mdel k r
noncomputable def mat (k : K) : List (K × V × Nat) → Nat → Option (Nat × V × Nat)
 | [], _ => none
 | o :: r, i => bif bd (k = o.1) then some (i, o.2.1, o.2.2) else mat k r (i + 1)
theorem findA_cons (k : AV) (p : AV × AV × Nat) (r : List (AV × AV × Nat)) (i : Nat) : findA k (p :: r) i = (match keyEq k p.1 with
   | some true => some (some (i, p.2))
   | some false => findA k r (i + 1)
   | none => none) := rfl
theorem findA_mE (k : K) : ∀ (l : List (K × V × Nat)) (i : Nat), findA (ke.e k) (mE ke ev l) i = some ((mat k l i).map fun q => (q.1, ev q.2.1, q.2.2))
 | [], i => rfl
 | o :: r, i => by
  simp only [mE, findA_cons, ke.eq, mat]
  cases h : bd (k = o.1) with
  | true => rfl
  | false => exact findA_mE k r (i + 1)
theorem mat_get (k : K) : ∀ (l : List (K × V × Nat)) (i : Nat), (mat k l i).map (fun q => q.2.1) = mget k l
 | [], i => rfl
 | o :: r, i => by
  simp only [mat, mget]
  cases h : bd (k = o.1) with
  | true => rfl
  | false => exact mat_get k r (i + 1)
theorem mat_none {k : K} {l : List (K × V × Nat)} {i : Nat} (h : mat k l i = none) (v : V) (n : Nat) : mset k v n l = l ++ [(k, v, n)] ∧ mclk k n l = n + 1 ∧ mdel k l = l := by
 induction l generalizing i with
 | nil => exact ⟨rfl, rfl, rfl⟩
 | cons o r ih =>
  simp only [mat] at h
  cases hb : bd (k = o.1) with
  | true => rw [hb] at h; cases h
  | false =>
   rw [hb] at h
   obtain ⟨a, b, c⟩ := ih h
   simp only [mset, mclk, mdel, hb, cond_false, a, b, c, List.cons_append]
   exact ⟨trivial, trivial, trivial⟩
theorem mat_ge {k : K} {l : List (K × V × Nat)} {i : Nat} {q : Nat × V × Nat} (h : mat k l i = some q) : i ≤ q.1 := by
 induction l generalizing i with
 | nil => cases h
 | cons o r ih =>
  simp only [mat] at h
  cases hb : bd (k = o.1) with
  | true => rw [hb] at h; cases h; exact Nat.le_refl _
  | false => rw [hb] at h; have := ih h; omega
theorem mat_some {k : K} {l : List (K × V × Nat)} {i : Nat} {q : Nat × V × Nat} (h : mat k l i = some q) (v : V) (n : Nat) : mE ke ev (mset k v n l) = (mE ke ev l).set (q.1 - i) (ke.e k, ev v, q.2.2) ∧ mclk k n l = n ∧ mE ke ev (mdel k l) = (mE ke ev l).eraseIdx (q.1 - i) := by
 induction l generalizing i with
 | nil => cases h
 | cons o r ih =>
  simp only [mat] at h
  cases hb : bd (k = o.1) with
  | true =>
   rw [hb] at h; cases h
   simp only [mset, mclk, mdel, mE, hb, cond_true, Nat.sub_self, List.set_cons_zero, List.eraseIdx_cons_zero]
   exact ⟨trivial, trivial, trivial⟩
  | false =>
   rw [hb] at h
   obtain ⟨a, b, c⟩ := ih h
   have hq := mat_ge h
   rw [show q.1 - i = (q.1 - (i + 1)) + 1 by omega]
   simp only [mset, mclk, mdel, mE, hb, cond_false, a, b, c, List.set_cons_succ, List.eraseIdx_cons_succ]
   exact ⟨trivial, trivial, trivial⟩
theorem mE_dat (hv : ∀ v, datB (ev v) = true) : ∀ l : List (K × V × Nat), datEs (mE ke ev l) = true
 | [] => rfl
 | o :: r => by simp only [mE, datEs, ke.dat, hv]; exact mE_dat hv r
theorem mE_app (a b : List (K × V × Nat)) : mE ke ev (a ++ b) = mE ke ev a ++ mE ke ev b := by
 induction a with
 | nil => rfl
 | cons o r ih => simp only [List.cons_append, mE, ih]
end
section
variable {K V : Type} (ke : KeyE K) (ev : V → AV) {X : Cx} {o : Oper} {L : List (Nat × AV)} {h : Heap}
theorem Hop.mapY {t kt vt id clock : Nat} {x kk : Operand} {k : K} {v : V} {l : List (K × V × Nat)} (hf : mget k l = some v) (hu : X.c.under t = some (.map kt vt)) (hok : okKey X.c kt (ke.e k) = true) (ho : o.op = .lookup t x kk true) (hx : evL L x = some (.mp id)) (hk : evL L kk = some (ke.e k))
  (hg : h.get id = .map (mE ke ev l) clock) : Hop X L h o (.tup [ev v, .bool true]) h := by
 have hm := mat_get k l 0
 rw [hf] at hm
 cases hq : mat k l 0 with
 | none => rw [hq] at hm; cases hm
 | some q =>
  rw [hq] at hm
  obtain ⟨i, v', b⟩ := q
  have hm : v' = v := by simpa using hm
  subst hm
  exact Hop.lookY (i := i) (b := b) ho hx hk hu hok hg (by rw [findA_mE, hq]; rfl)
theorem Hop.mapN {t kt vt id clock : Nat} {x kk : Operand} {k : K} {z : AV} {l : List (K × V × Nat)} (hf : mget k l = none) (hu : X.c.under t = some (.map kt vt)) (hok : okKey X.c kt (ke.e k) = true) (hz : X.c.zero vt = some z) (ho : o.op = .lookup t x kk true) (hx : evL L x = some (.mp id)) (hk : evL L kk = some (ke.e k))
  (hg : h.get id = .map (mE ke ev l) clock) : Hop X L h o (.tup [z, .bool false]) h := by
 have hm := mat_get k l 0
 rw [hf] at hm
 cases hq : mat k l 0 with
 | some q => rw [hq] at hm; cases hm
 | none => exact Hop.lookN ho hx hk hu hok hg (by rw [findA_mE, hq]; rfl) hz
theorem Hop.mapSet {t kt vt id clock : Nat} {x kk y : Operand} {k : K} {v : V} {l : List (K × V × Nat)} (hu : X.c.under t = some (.map kt vt)) (hok : okKey X.c kt (ke.e k) = true) (ho : o.op = .mapUpdate t x kk y) (hx : evL L x = some (.mp id)) (hk : evL L kk = some (ke.e k)) (hy : evL L y = some (ev v))
  (hg : h.get id = .map (mE ke ev l) clock) : Hop X L h o und (h.put id (.map (mE ke ev (mset k v clock l)) (mclk k clock l))) := fun e he => by
 rw [ho]; simp only [opA]; rw [he.ev hx, he.ev hk, he.ev hy]
 cases hq : mat k l 0 with
 | none =>
  obtain ⟨a, b, _⟩ := mat_none hq v clock
  have hff : findA (ke.e k) (mE ke ev l) 0 = some none := by rw [findA_mE, hq]; rfl
  simp only [oMapUpdate, hu, hok, hg, hff, a, b, mE_app, mE, Px.unit]
 | some q =>
  obtain ⟨a, b, _⟩ := mat_some ke ev hq v clock
  have hff : findA (ke.e k) (mE ke ev l) 0 = some (some (q.1, ev q.2.1, q.2.2)) := by rw [findA_mE, hq]; rfl
  simp only [oMapUpdate, hu, hok, hg, hff, a, b, Px.unit, Nat.sub_zero]
theorem weak_ptr (id off : Nat) : ∀ ρ x, VR ρ (.ptr id off) x → VR ρ (.rptr []) x := fun ρ x q => by
 simp only [VR] at q ⊢
 obtain ⟨B, N, e1, e2⟩ := q
 exact ⟨B, off, [], e2, rfl, fun j x e => by simp at e⟩
end
theorem eqP1 {P : Program} {t p' : TypeId} (D : Nat) (hu : P.underlying t = some (.pointer p')) (a : Addr) (w : World) : (Op.equalIn (D + 1) t (.pointer (some a)) (.pointer none)).run P w = .ok false w := by simp [Op.equalIn, run_underlying hu]
theorem Ops.rnil {X : Cx} {tb : List (Nat × TE)} (E : Env X.c tb) {sz : Nat} {rd : Option Nat} {all : Array Oper} {o : Oper} {rest : List Oper} {k : List It} {L : List (Nat × AV)} {h : Heap} {m : List Nat} {Q : Post} {d t u el : Nat} {x : Operand} {l : List AV} {e : TE} (hd : o.dst = some d) (hs : Nat.ble (d + 1) sz = true) (hw : Want all L o true)
  (ho : o.op = .binOp .eql t x (.const (.pointer none)) u) (hx : evL L x = some (.rptr l)) (ht : lkT tb t = some e) (hk : e.k = .ptr el) (nx : Ops X sz rd all rest k ((d, .bool false) :: L) h m Q) : Ops X sz rd all (o :: rest) k L h m Q := ⟨fun e0 he => by
 refine TriOps.cons (hw e0 he) (K := fun s' => RunK X sz rd k Q .normal s') ?_
 intro ro ρ w a next Q' g1 p g3 g4 g5
 refine ⟨fun _ _ => trivial, ?_⟩
 rw [show (wideR ro).round = ro from rfl, Oper.semAt_eq ro a.eval o (by rw [ho]; intro d q; cases q)]
 have hS : VR ρ (.rptr l) (a.eval x) := by rw [← he.ev hx]; exact ev_ok g3 x
 obtain ⟨D, hD, hDk⟩ := (E.t t e ht).kd
 have hu : X.c.P.underlying t = some D := under_eq E.k hD
 obtain ⟨p', rfl⟩ : ∃ p', D = .pointer p' := by rw [hk] at hDk; cases D <;> simp [tkOf] at hDk; exact ⟨_, rfl⟩
 have hrun : (execOp a.eval o).run X.c.P w = .ok (.value (.bool false)) w := by
  simp only [VR] at hS
  obtain ⟨B, o', Ls, hv, _, _⟩ := hS
  have h1 : ∀ w, (Op.equal t (a.eval x) (.pointer none)).run X.c.P w = .ok false w := fun w => by rw [hv]; exact eqP1 9999 hu _ w
  rw [hv] at h1
  have hc : a.eval (.const (.pointer none)) = .pointer none := rfl
  simp only [execOp, ho, hv, hc]
  simp [eqGuard, binOp, h1]
 rw [hrun]
 exact g5 (.bool false) ⟨e0, h, m⟩ _ w ρ ⟨e0.set und d _, by rw [hd]; exact setD_some hs, nx.run _ (he.set d _)⟩ g1 p g3 g4 (by simp only [VR])⟩
end Go.Px
end
section
namespace Go.Px
def extS (s : St) (h' : Heap) (ids : List Nat) : Prop := (∀ i, i < s.h.nxt → h'.get i = s.h.get i) ∧ (∀ d ∈ ids, s.h.nxt ≤ d ∧ h'.get d = .dfr true) ∧ ids.Nodup ∧ s.h.nxt ≤ h'.nxt
def QE (Q : Post) : Post := fun x s => ∀ h' ids, extS s h' ids → Q x ⟨s.e, h', s.m ++ ids⟩
def liveB : List AB → Bool
 | [] => true
 | .none :: _ => false
 | _ :: r => liveB r
theorem liveB_at : ∀ {bs : List AB} {j : Nat} {b : AB}, liveB bs = true → bs[j]? = some b → b ≠ .none
 | [], j, b, _, e => by simp at e
 | x :: r, j, b, h, e => by
  have step : liveB r = true ∧ x ≠ .none := by
   cases x <;> simp only [liveB] at h <;> first | (exact ⟨h, by simp⟩) | cases h
  cases j with
  | zero => simp at e; subst e; exact step.2
  | succ j => exact liveB_at (bs := r) (j := j) step.1 (by simpa using e)
def LM {σ : Type} (X : Cx) (sz : Nat) (k : List It) (Q : Post) (S : σ → List (Nat × AV)) (Hb : σ → List AB) (P : σ → Prop) (M : σ → Nat) (id N : Nat) (s : σ) : Post := fun x st =>
 match x with
 | .normal => ∃ s', P s' ∧ M s' < M s ∧ Has st.e (S s') ∧ getsP st.h (Hb s') 0 ∧ Nat.ble N st.h.nxt = true ∧ (∀ d ∈ st.m, N ≤ d ∧ st.h.get d = .dfr true) ∧ st.m.Nodup
 | .exit j => j = id ∧ QE (fun _ s => RunK X sz none k Q .normal s) .normal st
 | .ret => QE Q .ret st
theorem gw0 {X : Cx} {ρ : Map} {h : Heap} {w : World} (hX : X.g = none) : GhW X ρ h w (fun _ => False) (fun _ => []) := fun G hG => by rw [hX] at hG; cases hG
theorem Go.loopM {σ : Type} {X : Cx} {sz : Nat} {L : List (Nat × AV)} {h : Heap} {c : Code} {id N : Nat} {k : List It} {Q : Post} (hX : X.g = none) (hid0 : X.hid = []) (hg : ∀ i r, X.c.g0.get i ≠ .gl r) (S : σ → List (Nat × AV)) (Hb : σ → List AB) (P : σ → Prop) (M : σ → Nat) (hN : ∀ s, (Hb s).length = N) (hlow : ∀ s, lowsP N (Hb s)) (hlive : ∀ s, liveB (Hb s) = true) (hSl : ∀ s, lowL N (S s) = true) (hgv : lowsB N X.gv = true)
  (s0 : σ) (hP0 : P s0) (hS : SubL L (S s0)) (hH : h = hq N (Hb s0)) (body : ∀ s, P s → ∀ b, Go (XR X b) sz none [.code c] (S s) (hq N (Hb s)) [] (LM X sz k Q S Hb P M id N s)) :
  Go X sz none (.code (.loop c) :: .blk id :: k) L h [] Q := ⟨fun e0 he0 => by
 subst hH
 intro ro ρ w a Q' h1 p h3 h4 h5
 have key : ∀ n i, M i = n → P i → ∀ (ρ : Map) (w : World) (a : Act) (e : T AV) (Hs : List Nat), PI X ρ (hq N (Hb i)) w → ER ρ e a.tmps sz → Has e (S i) → a.defers = Hs.map colD → (∀ B ∈ Hs, Hid X ρ (fun _ => False) 0 w B) → Hs.Nodup → LoopW X.c.P ro c Q' a w := by
  intro n
  induction n using Nat.strongRecOn with
  | ind n ih =>
  intro i hMi hPi ρ w a e Hs p er he hD hH hnd
  have pb := p.base (gw0 hX) X.ro Hs X.gx X.gv p.keep (F := ρ.F) (fun _ _ _ e => e) p.hr.fz (fun _ _ _ _ => rfl) (fun _ q => q.elim) (fun _ _ _ _ => rfl)
  have hA : Tri (XR X ⟨w, ρ.F, fun b => (∃ i N, ρ i = some (b, N)) ∨ False, Hs⟩) sz none c ⟨e, hq N (Hb i), []⟩ (LM X sz k Q S Hb P M id N i) := (body i hPi _).run e he
  refine LoopW.next (hA ro ρ w a _ h1 pb er ⟨[], rfl, hD⟩ fun x s' a' w' ρ' q g1 g2 g3 g4 => ?_)
  obtain ⟨c1, c2, c3, c4, S1, Fo1, c5, c6, c7, c8⟩ := p.leg (S := fun _ => False) (fun _ q => q.elim) (fun _ _ _ e => e) (fun _ _ => rfl) g2
  obtain ⟨D1, d1, d2⟩ := g4
  have d2 : a'.defers = D1 ++ Hs.map colD := d2
  have hH' : ∀ B ∈ Hs, Hid X ρ' (fun _ => False) 0 w' B := fun B hB => by
   obtain ⟨x1, x2, x3, x4, x5, x6, x7⟩ := hH B hB
   have hn : ¬ ((∃ i N, ρ i = some (B, N)) ∨ False) := fun q => q.elim (fun ⟨i, N, e⟩ => x3 i N e) _root_.id
   obtain ⟨y1, y2, y3⟩ := c3 B x1 hn
   exact ⟨Nat.lt_of_lt_of_le x1 c2.size, y1.trans x2, y3, y2.trans x4, x5, _root_.id, x7⟩
  have fin : ∀ (x : Ex) (R : Post), (∀ s2, R x s2 → RunK X sz none (.blk id :: k) Q x s2) → QE R x s' → Q' (exitOf x) a' w' := fun x R hR hq => by
   obtain ⟨ρ2, h2', ids, k1, k2, k3, k4, k5, k6, k7, k8, _⟩ := PI.unhide (n0 := 0) (fun G' hG' => by rw [hX] at hG'; cases hG') Hs c1 (gw0 hX) (.inl hX) hH' hnd
   refine h5 x ⟨s'.e, h2', s'.m ++ ids⟩ a' w' ρ2 (hR _ (hq h2' ids ⟨k5, k6, k7, k8⟩)) g1 k1 (g3.mono k4) ⟨D1 ++ Hs.map colD, (d1.mono k4).append k3, ?_⟩
   rw [hid0, d2]; simp
  cases x with
  | exit j =>
   obtain ⟨rfl, hE⟩ := (show j = id ∧ QE (fun _ s => RunK X sz none k Q .normal s) .normal s' from q)
   refine ⟨⟨.exit j, rfl, by simp⟩, fin (.exit j) (fun _ s => RunK X sz none k Q .normal s) (fun s2 hs2 => ?_) hE⟩
   show (match Nat.beq j j with | true => _ | false => _)
   rw [Nat.beq_refl]; exact hs2
  | ret => exact ⟨⟨.ret, rfl, by simp⟩, fin .ret Q (fun s2 hs2 => ret_run hs2) (show QE Q .ret s' from q)⟩
  | normal =>
   obtain ⟨i', q0, q1, q2, q3, q4, q5, q6⟩ := (show ∃ i', P i' ∧ M i' < M i ∧ Has s'.e (S i') ∧ getsP s'.h (Hb i') 0 ∧ Nat.ble N s'.h.nxt = true ∧ (∀ d ∈ s'.m, N ≤ d ∧ s'.h.get d = .dfr true) ∧ s'.m.Nodup from q)
   have hl := hN i'
   have p9 := c1.cutP (Hb i') hg (by rw [hl]; exact q4) q3 (by rw [hl]; exact hlow _) (by rw [hl]; exact hgv) (.inl hX)
   rw [hl] at p9
   have p9 : PI X (cutN ρ' N) (hq N (Hb i')) w' := by
    have e : hp (Hb i') = hq N (Hb i') := by unfold hp hq; rw [hl]
    rw [← e]; exact p9
   obtain ⟨Bs, f1, f2, f3⟩ := d1.blocks
   have hdok : ∀ d ∈ s'.m, s'.h.ok d := fun d hd => by unfold Heap.ok; rw [(q5 d hd).2]; trivial
   have hBs : ∀ B ∈ Bs, ∃ d ∈ s'.m, ∃ N, ρ' d = some (B, N) := fun B hB => by
    obtain ⟨j, hj⟩ := List.getElem?_of_mem hB
    have hjl : j < s'.m.length := by rw [← f2]; exact (List.getElem?_eq_some_iff.1 hj).1
    obtain ⟨B', N, h1', h2'⟩ := f3 j _ (List.getElem?_eq_getElem hjl)
    rw [hj] at h1'; cases h1'
    exact ⟨_, List.getElem_mem hjl, N, h2'⟩
   have hB' : ∀ B ∈ Bs, Hid X (cutN ρ' N) (fun _ => False) 0 w' B := fun B hB => by
    obtain ⟨d, hd, M', hρ⟩ := hBs B hB
    have hr := c1.hr.ok d B M' hρ (hdok d hd)
    rw [(q5 d hd).2] at hr
    refine ⟨c1.hr.lt d B M' hρ, hr, fun j K e => ?_, c1.hr.F_row hρ (hdok d hd) (fun r => by rw [(q5 d hd).2]; exact fun e => by cases e), c1.mine d B M' hρ, _root_.id, Nat.zero_le _⟩
    by_cases hj : j < N
    ·rw [cutN_m hj] at e
     have hjd : j ≠ d := fun e => by have := (q5 d hd).1; omega
     obtain ⟨b, hb⟩ : ∃ b, (Hb i')[j]? = some b := ⟨_, List.getElem?_eq_getElem (by omega)⟩
     have hne := liveB_at (hlive i') hb
     have hgb := (getsP_at q3 j b hb).resolve_left hne
     rw [Nat.zero_add] at hgb
     obtain ⟨r, s, qq, x, y, _⟩ := c1.hr.inj j d B K M' hjd e hρ (ab_ok (X := X) (ρ := ρ') (w := w') hgb hne (lowsP_at (hlow _) j b hb)) (hdok d hd)
     rw [(q5 d hd).2] at y; cases y
    ·rw [cutN_n hj] at e; cases e
   have hH2 : ∀ B ∈ Hs, Hid X (cutN ρ' N) (fun _ => False) 0 w' B := fun B hB => by
    obtain ⟨x1, x2, x3, x4, x5, x6, x7⟩ := hH' B hB
    refine ⟨x1, x2, fun j K e => ?_, x4, x5, x6, x7⟩
    by_cases hj : j < N
    ·rw [cutN_m hj] at e; exact x3 j K e
    ·rw [cutN_n hj] at e; cases e
   have hndB : Bs.Nodup := by
    rw [List.nodup_iff_pairwise_ne, List.pairwise_iff_getElem]
    intro j1 j2 hj1 hj2 hlt e
    obtain ⟨B1, M1, x1, y1⟩ := f3 j1 _ (List.getElem?_eq_getElem (by omega))
    obtain ⟨B2, M2, x2, y2⟩ := f3 j2 _ (List.getElem?_eq_getElem (by omega))
    rw [List.getElem?_eq_getElem hj1] at x1
    rw [List.getElem?_eq_getElem hj2] at x2
    cases x1; cases x2
    rw [← e] at y2
    have hne : s'.m[j1]'(by omega) ≠ s'.m[j2]'(by omega) := fun q => by
     have := (List.pairwise_iff_getElem.1 (List.nodup_iff_pairwise_ne.1 q6)) j1 j2 (by omega) (by omega) hlt
     exact this q
    obtain ⟨r, s, qq, x, _⟩ := c1.hr.inj _ _ _ _ _ hne y1 y2 (hdok _ (List.getElem_mem _)) (hdok _ (List.getElem_mem _))
    rw [(q5 _ (List.getElem_mem _)).2] at x; cases x
   obtain ⟨e', he', er'⟩ := known_env (σ := cutN ρ' N) (L := S i') (tm := a'.tmps) (sz := sz) g3.1 (fun s v hv => by
    have := g3.2 s
    rw [q2 s v hv] at this
    exact low_ok v (lowL_at (hSl _) s v hv) this)
   exact ih (M i') (by omega) i' rfl q0 (cutN ρ' N) w' a' e' (Bs ++ Hs) p9 er' he' (by rw [d2, f1, List.map_append]) (fun B hB => (List.mem_append.1 hB).elim (hB' B) (hH2 B)) (List.nodup_append.2 ⟨hndB, hnd, fun B1 hB1 B2 hB2 e => by
    subst e
    obtain ⟨d, hd, M', hρ⟩ := hBs B1 hB1
    exact (hH' B1 hB2).im d M' hρ⟩)
 obtain ⟨D1, d1, d2⟩ := h4
 have hD1 : D1 = [] := d1
 subst hD1
 have hl : LoopW X.c.P ro c Q' a w := key _ s0 rfl hP0 ρ w a e0 [] p h3 (he0.sub hS) (by rw [d2, hid0]; rfl) (fun B hB => by cases hB) List.nodup_nil
 intro b kk cs hro hb hroom
 obtain ⟨e, a', w', hq, harr⟩ := hl b kk cs hro hb hroom
 exact ⟨e, a', w', hq, .of_steps (.one (fenced_calm hb hroom rfl) stepR_loop) harr⟩⟩
theorem Tri.hide {X : Cx} {sz : Nat} {c : Code} {L : List (Nat × AV)} {N : Nat} {bs : List AB} {Q : Post} (hX : X.g = none) (hid0 : X.hid = []) (hg : ∀ i r, X.c.g0.get i ≠ .gl r) (n : ∀ b, Go (XR X b) sz none [.code c] L (hq N bs) [] (QE Q)) (hN : bs.length = N) (hlow : lowL N L = true) (hbl : lowsP N bs) (hlive : liveB bs = true) (hgv : lowsB N X.gv = true)
  {e : T AV} {h : Heap} {m : List Nat} (he : Has e L) (hn : Nat.ble N h.nxt = true) (hb : getsP h bs 0) (hm : ∀ d ∈ m, N ≤ d ∧ h.get d = .dfr true) (hnd : m.Nodup) : Tri X sz none c ⟨e, h, m⟩ Q := by
 intro ro ρ w a Q' h1 p h3 h4 h5
 obtain ⟨D1, d1, d2⟩ := h4
 rw [hid0] at d2
 have d2 : a.defers = D1 := by simpa using d2
 have p9 := p.cutP bs hg (by rw [hN]; exact hn) hb (by rw [hN]; exact hbl) (by rw [hN]; exact hgv) (.inl hX)
 rw [hN] at p9
 have p9 : PI X (cutN ρ N) (hq N bs) w := by
  have e : hp bs = hq N bs := by unfold hp hq; rw [hN]
  rw [← e]; exact p9
 obtain ⟨Bs, f1, f2, f3⟩ := d1.blocks
 have f2 : Bs.length = m.length := f2
 have hdok : ∀ d ∈ m, h.ok d := fun d hd => by unfold Heap.ok; rw [(hm d hd).2]; trivial
 have hBs : ∀ B ∈ Bs, ∃ d ∈ m, ∃ N, ρ d = some (B, N) := fun B hB => by
  obtain ⟨j, hj⟩ := List.getElem?_of_mem hB
  have hjl : j < m.length := by rw [← f2]; exact (List.getElem?_eq_some_iff.1 hj).1
  obtain ⟨B', N, h1', h2'⟩ := f3 j _ (List.getElem?_eq_getElem hjl)
  rw [hj] at h1'; cases h1'
  exact ⟨_, List.getElem_mem hjl, N, h2'⟩
 have hH : ∀ B ∈ Bs, Hid X (cutN ρ N) (fun _ => False) 0 w B := fun B hB => by
  obtain ⟨d, hd, M', hρ⟩ := hBs B hB
  have hr := p.hr.ok d B M' hρ (hdok d hd)
  rw [(hm d hd).2] at hr
  refine ⟨p.hr.lt d B M' hρ, hr, fun j K e => ?_, p.hr.F_row hρ (hdok d hd) (fun r => by rw [(hm d hd).2]; exact fun e => by cases e), p.mine d B M' hρ, _root_.id, Nat.zero_le _⟩
  by_cases hj : j < N
  ·rw [cutN_m hj] at e
   have hjd : j ≠ d := fun e => by have := (hm d hd).1; omega
   obtain ⟨b, hb'⟩ : ∃ b, bs[j]? = some b := ⟨_, List.getElem?_eq_getElem (by omega)⟩
   have hne := liveB_at hlive hb'
   have hgb := (getsP_at hb j b hb').resolve_left hne
   rw [Nat.zero_add] at hgb
   obtain ⟨r, s, qq, x, y, _⟩ := p.hr.inj j d B K M' hjd e hρ (ab_ok (X := X) (ρ := ρ) (w := w) hgb hne (lowsP_at hbl j b hb')) (hdok d hd)
   rw [(hm d hd).2] at y; cases y
  ·rw [cutN_n hj] at e; cases e
 have hndB : Bs.Nodup := by
  rw [List.nodup_iff_pairwise_ne, List.pairwise_iff_getElem]
  intro j1 j2 hj1 hj2 hlt e
  obtain ⟨B1, M1, x1, y1⟩ := f3 j1 _ (List.getElem?_eq_getElem (by omega))
  obtain ⟨B2, M2, x2, y2⟩ := f3 j2 _ (List.getElem?_eq_getElem (by omega))
  rw [List.getElem?_eq_getElem hj1] at x1
  rw [List.getElem?_eq_getElem hj2] at x2
  cases x1; cases x2
  rw [← e] at y2
  have hne : m[j1]'(by omega) ≠ m[j2]'(by omega) := fun q => by
   have := (List.pairwise_iff_getElem.1 (List.nodup_iff_pairwise_ne.1 hnd)) j1 j2 (by omega) (by omega) hlt
   exact this q
  obtain ⟨r, s, qq, x, _⟩ := p.hr.inj _ _ _ _ _ hne y1 y2 (hdok _ (List.getElem_mem _)) (hdok _ (List.getElem_mem _))
  rw [(hm _ (List.getElem_mem _)).2] at x; cases x
 obtain ⟨e', he', er'⟩ := known_env (σ := cutN ρ N) (L := L) (tm := a.tmps) (sz := sz) h3.1 (fun s v hv => by
  have := h3.2 s
  rw [he s v hv] at this
  exact low_ok v (lowL_at hlow s v hv) this)
 have pb := p9.base (gw0 hX) X.ro Bs X.gx X.gv p9.keep (F := (cutN ρ N).F) (fun _ _ _ e => e) p9.hr.fz (fun _ _ _ _ => rfl) (fun _ q => q.elim) (fun _ _ _ _ => rfl)
 have hA : Tri (XR X ⟨w, (cutN ρ N).F, fun b => (∃ i M, (cutN ρ N) i = some (b, M)) ∨ False, Bs⟩) sz none c ⟨e', hq N bs, []⟩ (QE Q) := (n _).run e' he'
 refine hA ro (cutN ρ N) w a _ h1 pb er' ⟨[], rfl, by rw [d2, f1]; rfl⟩ fun x s' a' w' ρ' q g1 g2 g3 g4 => ?_
 obtain ⟨c1, c2, c3, c4, S1, Fo1, c5, c6, c7, c8⟩ := p9.leg (S := fun _ => False) (fun _ q => q.elim) (fun _ _ _ e => e) (fun _ _ => rfl) g2
 obtain ⟨D2, d3, d4⟩ := g4
 have d4 : a'.defers = D2 ++ Bs.map colD := d4
 have hH' : ∀ B ∈ Bs, Hid X ρ' (fun _ => False) 0 w' B := fun B hB => by
  obtain ⟨x1, x2, x3, x4, x5, x6, x7⟩ := hH B hB
  have hn : ¬ ((∃ i M, (cutN ρ N) i = some (B, M)) ∨ False) := fun q => q.elim (fun ⟨i, N, e⟩ => x3 i N e) _root_.id
  obtain ⟨y1, y2, y3⟩ := c3 B x1 hn
  exact ⟨Nat.lt_of_lt_of_le x1 c2.size, y1.trans x2, y3, y2.trans x4, x5, _root_.id, x7⟩
 obtain ⟨ρ2, h2', ids, k1, k2, k3, k4, k5, k6, k7, k8, _⟩ := PI.unhide (n0 := 0) (fun G' hG' => by rw [hX] at hG'; cases hG') Bs c1 (gw0 hX) (.inl hX) hH' hndB
 refine h5 x ⟨s'.e, h2', s'.m ++ ids⟩ a' w' ρ2 (q h2' ids ⟨k5, k6, k7, k8⟩) g1 k1 (g3.mono k4) ⟨D2 ++ Bs.map colD, (d3.mono k4).append k3, ?_⟩
 rw [hid0, d4]; simp
section
variable {σ : Type} {X : Cx} {b : B2} {sz : Nat} {L : List (Nat × AV)} {h : Heap} {m : List Nat} {Q : Post} {S : σ → List (Nat × AV)} {Hb : σ → List AB} {P : σ → Prop} {M : σ → Nat} {id N : Nat} {s : σ}
theorem extS.dfr {s : St} {h' : Heap} {ids : List Nat} (x : extS s h' ids) {N : Nat} (hm : ∀ d ∈ s.m, N ≤ d ∧ s.h.get d = .dfr true) (hd : s.m.Nodup) (hlt : ∀ d ∈ s.m, d < s.h.nxt) (hN : N ≤ s.h.nxt) : (∀ d ∈ s.m ++ ids, N ≤ d ∧ h'.get d = .dfr true) ∧ (s.m ++ ids).Nodup := by
 obtain ⟨x1, x2, x3, x4⟩ := x
 refine ⟨fun d q => ?_, List.nodup_append.2 ⟨hd, x3, fun d q d' q' e => ?_⟩⟩
 ·rcases List.mem_append.1 q with q | q
  ·exact ⟨(hm d q).1, (x1 d (hlt d q)).trans (hm d q).2⟩
  ·exact ⟨Nat.le_trans hN (x2 d q).1, (x2 d q).2⟩
 ·have := hlt d q
  have := (x2 d' q').1
  omega
theorem Go.exitM {cR : Code} {k' : List It} {NE : Nat} {bs : List AB} {L2 : List (Nat × AV)} (n : ∀ b, Go (XR X b) sz none [.code cR] L2 (hq NE bs) [] (QE Q)) (hX : X.g = none) (hid0 : X.hid = []) (hg : ∀ i r, X.c.g0.get i ≠ .gl r) (hx : xit id k' = none) (hN : bs.length = NE) (hs : SubL L L2) (hlow : lowL NE L2 = true) (hbl : lowsP NE bs) (hlive : liveB bs = true) (hgv : lowsB NE X.gv = true)
  (hn : Nat.ble NE h.nxt = true) (hb : getsP h bs 0) (hm : ∀ d ∈ m, NE ≤ d ∧ h.get d = .dfr true) (hnd : m.Nodup) (hlt : ∀ d ∈ m, d < h.nxt) : Go (XR X b) sz none (.code (.exit id) :: k') L h m (LM X sz [.code cR] Q S Hb P M id N s) := ⟨fun e he => Tri.exit (by
 have key : ∀ {k' : List It}, xit id k' = none → RunK (XR X b) sz none k' (LM X sz [.code cR] Q S Hb P M id N s) (.exit id) ⟨e, h, m⟩ := by
  intro k'
  induction k' with
  | nil =>
   intro _
   refine ⟨rfl, fun h' ids hx => ?_⟩
   obtain ⟨y1, y2⟩ := hx.dfr (N := NE) hm hnd hlt (bleT hn)
   have hx4 := hx.2.2.2
   exact Tri.hide hX hid0 hg n hN hlow hbl hlive hgv (he.sub hs) (Nat.ble_eq_true_of_le (Nat.le_trans (bleT hn) hx4)) (by
    have : ∀ (bs : List AB) (j : Nat), j + bs.length ≤ NE → getsP h bs j → getsP h' bs j := by
     intro bs
     induction bs with
     | nil => intro j _ _; trivial
     | cons x r ih =>
      intro j hj ⟨q1, q2⟩
      refine ⟨q1.imp _root_.id fun q => ?_, ih (j + 1) (by simp only [List.length_cons] at hj; omega) q2⟩
      have hlt : j < h.nxt := by have := bleT hn; simp only [List.length_cons] at hj; omega
      rw [hx.1 j hlt]; exact q
    exact this bs 0 (by omega) hb) y1 y2
  | cons x k' ih =>
   intro q
   cases x with
   | code c => exact ih q
   | lp c => exact ih q
   | blk i =>
    unfold xit at q
    rw [show RunK (XR X b) sz none (.blk i :: k') (LM X sz [.code cR] Q S Hb P M id N s) (.exit id) ⟨e, h, m⟩ = (match Nat.beq id i with | true => RunK (XR X b) sz none k' (LM X sz [.code cR] Q S Hb P M id N s) .normal ⟨e, h, m⟩ | false => RunK (XR X b) sz none k' (LM X sz [.code cR] Q S Hb P M id N s) (.exit id) ⟨e, h, m⟩) from rfl]
    cases hi : Nat.beq id i with
    | true => rw [hi] at q; cases q
    | false => rw [hi] at q; exact ih q
 exact key hx)⟩
theorem Go.retMM {k k' : List It} (H : ∀ e, Has e L → QE Q .ret ⟨e, h, m⟩) : Go (XR X b) sz none (.code .ret :: k') L h m (LM X sz k Q S Hb P M id N s) := Go.ret fun e he => H e he
theorem Go.nextM {k : List It} (s' : σ) (hP : P s') (hM : M s' < M s) (hs : SubL L (S s')) (hb : getsP h (Hb s') 0) (hn : Nat.ble N h.nxt = true) (hm : ∀ d ∈ m, N ≤ d ∧ h.get d = .dfr true) (hd : m.Nodup) : Go (XR X b) sz none [] L h m (LM X sz k Q S Hb P M id N s) :=
 Go.nil fun e he => ⟨s', hP, hM, he.sub hs, hb, hn, hm, hd⟩
end
theorem leave_nxt : ∀ {m : List Nat} {h h' : Heap}, leave h m = some h' → h'.nxt = h.nxt
 | [], h, h', e => by cases e; rfl
 | d :: m, h, h', e => by
  rw [leave_cons] at e
  split at e
  ·split at e
   ·exact (leave_nxt e).trans rfl
   ·cases e
  ·cases e
theorem MbsAt.congr {h h' : Heap} : ∀ {bs : List MB} {n : Nat}, (∀ i, n ≤ i → i < n + bs.length → h'.get i = h.get i) → MbsAt h bs n → MbsAt h' bs n
 | [], n, _, _ => trivial
 | b :: r, n, q, ⟨a, c⟩ => by
  refine ⟨?_, MbsAt.congr (fun i h1 h2 => q i (by omega) (by simp only [List.length_cons]; omega)) c⟩
  have hi := q n (Nat.le_refl _) (by simp only [List.length_cons]; omega)
  cases b with
  | no => trivial
  | row t cs => obtain ⟨r, r1, r2⟩ := a; exact ⟨r, hi.trans r1, r2⟩
  | arr t z n' l => exact hi.trans a
  | map es c => exact hi.trans a
theorem fin_M {X : Cx} {res : List ResultVar} {v : AV} {bs' : List MB} {L : List (Nat × AV)} {e : T AV} {h : Heap} {m : List Nat} (vs : List AV) (he : Has e L) (hm : ∀ d ∈ m, bs'.length ≤ d ∧ h.get d = .dfr true) (hd : m.Nodup) (hlt : ∀ d ∈ m, d < h.nxt) (hn : bs'.length ≤ h.nxt)
  (hr : ∀ h', (∀ i, i < h.nxt → i ∉ m → h'.get i = h.get i) → ResH X L h' res vs) (hv : one vs = v) (hb : MbsAt h bs' 0) : QE (FinM X.c res v bs') .ret ⟨e, h, m⟩ := fun h' ids hx => by
 obtain ⟨y1, y2⟩ := hx.dfr (N := bs'.length) hm hd hlt hn
 obtain ⟨x1, x2, x3, x4⟩ := hx
 obtain ⟨h2, q1, q2⟩ := leave_all (fun d q => (y1 d q).2) y2
 have hsame : ∀ i, i < h.nxt → i ∉ m → h2.get i = h.get i := fun i hi hn => by
  rw [q2 i (fun q => (List.mem_append.1 q).elim hn fun q => by have := (x2 i q).1; have : h.nxt ≤ i := this; omega)]
  exact x1 i hi
 refine ⟨.inr rfl, h2, vs, q1, resH_ok he (hr h2 hsame), hv, hb.congr fun i _ hi => ?_, ?_⟩
 ·rw [Nat.zero_add] at hi
  exact hsame i (Nat.lt_of_lt_of_le hi hn) (fun q => by have := (hm i q).1; omega)
 ·rw [leave_nxt q1]; exact Nat.ble_eq_true_of_le (Nat.le_trans hn x4)
theorem Go.afterRt {X : Cx} {sz : Nat} {k : List It} {L : List (Nat × AV)} {h : Heap} {m : List Nat} {Q : Post} {l : Nat} {r : ALoop} (hl : h.get l = .loop r) (hp : r.pending = some .ret) (hs : r.state = .ready ∨ r.state = .done) (n : ∀ e, Has e L → Q .ret ⟨e, h.put l (.loop { r with state := .exhausted }), m⟩) : AfterR X sz none k L l m Q h := by
 refine ⟨r, hl, fun q => ?_, fun e he => ?_⟩
 ·rcases hs with hs | hs <;> rw [hs] at q <;> cases q
 ·have := ret_run (k := k) (X := X) (sz := sz) (rd := none) (n e he)
  revert this
  generalize ({ e := e, h := h.put l (.loop { r with state := .exhausted }), m := m } : St) = s
  intro this
  rw [hp]; exact this
theorem row_some {h : Heap} {id : Nat} {r : Row} (e : h.get id = .row r) (hr : r.root = none) : h.row id = some r := by rw [Heap.row_of e, hr]
theorem res_cell {X : Cx} {tb : List (Nat × TE)} (E : Env X.c tb) {L : List (Nat × AV)} {h h' : Heap} {t ty id tt : Nat} {v : AV} {e : TE} (hl : lkO L t = some (.ptr id 0)) (ht : lkT tb ty = some e) (ha : e.k.isAgg = false) (hg : h.get id = .row ⟨tt, 1, .leaf, [v], none⟩) (hh : h'.get id = h.get id) : Hop X L h' (ldO ty t) v h' :=
 Hop.ldP E rfl hl ht ha (row_some (hh.trans hg) rfl) rfl rfl
structure Shr (T : Prop) : Prop where
 h : T
theorem share {T G : Prop} (k : Shr T → G) (t : T) : G := k ⟨t⟩
end Go.Px
end
section
namespace Go.Px
open Go.Deep Go.ChangeShapes Go.WideShapes
theorem read_sliceB {H : Type} {enc : TypeId × Value → H} {P : Program} {W : World} {α : Type} [Inhabited α] {en : α → List AV} {z : Nat} (hz : 0 < z) (hen : ∀ a, (en a).length = z) {t e : TypeId} (ht : P.underlying t = some (.slice e)) (hc : P.cellsOf e = z) {Q : α → DataW H → Prop} {B : DataW H → Prop}
  (hel : ∀ n cs y, B y.1 → DataW.trod enc P W 0 (fun _ => true) true n e cs = some y → ∃ x, VRs (fzm (held0 W)) (en x) cs ∧ Q x y.1)
  {n : Nat} {v : Value} {y : DataW H × List MemPlace} (hB : ∀ els sp, y.1 = .slice els sp → ∀ d ∈ els, B d) (h : DataW.trod enc P W 0 (fun _ => true) true n t [v] = some y) :
  ∃ l : List α, VR (fzm (held0 W)) (dsl z en l) v ∧ ((l = [] ∧ y.1 = .nil) ∨ ∃ els sp, y.1 = .slice els sp ∧ els.length = l.length ∧ ∀ i, i < l.length → ∃ d, els[i]? = some d ∧ Q (l.getD i default) d) := by
 rcases open_slice ht h with ⟨hv, rfl⟩ | ⟨a, len, cap, m, k, D, Pl, hv, hb, hl, hm, hmm, rfl, hx⟩
 ·have hv : v = .slice none 0 0 := by simpa using hv
  subst hv
  exact ⟨[], by simp [dsl, VR], .inl ⟨rfl, rfl⟩⟩
 ·have hv : v = .slice (some a) len cap := by simpa using hv
  subst hv
  rw [hc] at hx
  have hlm : len ≤ m := by rw [hmm]; split <;> omega
  obtain ⟨f, hf⟩ := choose_lt (α := α) (n := len) (p := fun i x => ∃ cs, W.cells? 0 (a.add (i * z)) z = some cs ∧ VRs (fzm (held0 W)) (en x) cs ∧ Q x (D i)) (fun i hi => by
   obtain ⟨cs', h1, h2⟩ := hx i (by omega)
   obtain ⟨x, x1, x2⟩ := hel _ _ _ (hB _ _ rfl _ (List.mem_map.2 ⟨i, List.mem_range.2 hi, rfl⟩)) h2
   exact ⟨x, cs', h1, x1, x2⟩)
  have hlen : ((List.range len).map f).length = len := by simp
  refine ⟨(List.range len).map f, ?_, .inr ⟨_, _, rfl, by simp, fun i hi => ?_⟩⟩
  ·unfold dsl
   rw [hlen]
   simp only [VR]
   refine ⟨by rw [flat_len hen, hlen], ?_⟩
   by_cases h0 : len = 0
   ·exact .inl ⟨h0, .inr ⟨a, cap, by rw [h0]⟩⟩
   ·right
    obtain ⟨B, o, spot⟩ := a
    have hspot : spot = none := by
     obtain ⟨cs, c1, c2, _⟩ := hf 0 (by omega)
     obtain ⟨_, q2, q3⟩ := World.cells?_some c1
     have q4 := q3 0 hz
     rw [List.getElem?_eq_getElem (by omega)] at q4
     simpa [Addr.add] using World.cell?_spot q4
    subst hspot
    refine ⟨B, o, cap, ((held0 W B).drop o).take (len * z), rfl, hl, ?_, fun j x hj => ?_⟩
    ·have key : ∀ k, k ≤ len → VRs (fzm (held0 W)) (((List.range k).map f).flatMap en) (((held0 W B).drop o).take (k * z)) := by
      intro k
      induction k with
      | zero => intro _; simp [VRs]
      | succ k ih =>
       intro hk
       have h1 := ih (by omega)
       obtain ⟨cs, c1, c2, _⟩ := hf k (by omega)
       obtain ⟨_, q2, q3⟩ := World.cells?_some c1
       have e : ((held0 W B).drop o).take ((k + 1) * z) = ((held0 W B).drop o).take (k * z) ++ cs := by
        rw [Nat.succ_mul, List.take_add]
        congr 1
        apply List.ext_getElem?
        intro r
        rw [List.drop_drop, List.getElem?_take]
        by_cases hr : r < z
        ·rw [if_pos hr, List.getElem?_drop]
         have q4 := q3 r hr
         rw [List.getElem?_eq_getElem (show r < cs.length by omega)] at q4 ⊢
         rw [add_plain, add_plain] at q4
         have := held0_at.2 q4
         rw [← this]
        ·rw [if_neg hr, List.getElem?_eq_none (by omega)]
       rw [List.range_succ, List.map_append, List.flatMap_append, e]
       refine h1.append ?_
       simpa using c2
     exact key len (Nat.le_refl _)
    ·rw [List.getElem?_take] at hj
     split at hj
     ·rw [List.getElem?_drop] at hj
      exact hj
     ·cases hj
  ·have hi' : i < len := by omega
   obtain ⟨cs, _, _, q⟩ := hf i hi'
   refine ⟨D i, by simp [hi'], ?_⟩
   rw [List.getD_eq_getElem?_getD]
   simpa [hi'] using q
end Go.Px
end
