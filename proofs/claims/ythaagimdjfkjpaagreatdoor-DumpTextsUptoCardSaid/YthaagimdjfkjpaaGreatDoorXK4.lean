/- Parts of the proof in YthaagimdjfkjpaaGreatDoorXFin: PxTz, PxVa, PxVb, PxVc, PxVd, PxVe, PxTx, PxVf, PxVg, PxVh, PxVi, PxVj, PxVk, PxVp, PxVq, PxVl, PxVr, PxVz, PxVv, PxVw, PxXa, PxVs, PxXb, PxXd, PxVm, PxVx, PxVn, PxVy, PxVu, PxVt, PxXc, PxVo. -/
import Derived.Test.YthaagimdjfkjpaaGreatDoorXK3
import Derived.Sort.Grow
import Derived.Sort.EncStr
import Derived.Lib.SlicesCompact
import Derived.Lib.Bytealg
import Derived.Lib.IndexEntry
import Derived.Laws.Externs
import Derived.Lib.Builder
set_option linter.unusedVariables false
set_option linter.unusedSimpArgs false
section
namespace Go.Px
/-! ## numbers renamed -/
def renF (f : Nat → Nat) (g : Fn) : Fn := match g with | .yield l => .yield (f l) | g => g
mutual
def ren (f : Nat → Nat) : AV → AV
 | .bad => .bad
 | .bool b => .bool b
 | .int k n => .int k n
 | .str l => .str l
 | .nilptr => .nilptr
 | .ptr i o => .ptr (f i) o
 | .nilsl => .nilsl
 | .sl i o l c z => .sl (f i) o l c z
 | .esl i => .esl (f i)
 | .nilmp => .nilmp
 | .mp i => .mp (f i)
 | .nilfn => .nilfn
 | .fn g a b => .fn (renF f g) (rens f a) (rens f b)
 | .nilifc => .nilifc
 | .ifc t a => .ifc t (ren f a)
 | .agg l => .agg (rens f l)
 | .tup l => .tup (rens f l)
 | .gptr g o => .gptr g o
 | .anyb => .anyb
 | .big n => .big n
 | .low n => .low n
 | .anyi => .anyi
 | .rsl n z l => .rsl n z l
 | .rptr l => .rptr l
 | .csl => .csl
 | .own i n z => .own (f i) n z
 | .optr i n o => .optr (f i) n o
def rens (f : Nat → Nat) : List AV → List AV
 | [] => []
 | a :: l => ren f a :: rens f l
end
theorem rens_length (f : Nat → Nat) : ∀ l : List AV, (rens f l).length = l.length
 | [] => rfl
 | a :: l => by simp only [rens, List.length_cons, rens_length f l]
theorem rens_get (f : Nat → Nat) : ∀ (l : List AV) (j : Nat), (rens f l).getD j .bad = ren f (l.getD j .bad)
 | [], j => by simp [rens, ren]
 | a :: l, 0 => rfl
 | a :: l, j + 1 => by
  have := rens_get f l j
  simpa [rens] using this
def pull (ρ : Map) (f : Nat → Nat) : Map := ⟨fun j => ρ (f j), ρ.F, fun j n => ρ.V (f j) n⟩
mutual
theorem vr_ren {ρ : Map} {f : Nat → Nat} : ∀ (a : AV) (v : Value), VR ρ (ren f a) v ↔ VR (pull ρ f) a v
 | .bad, _ => by simp only [ren, VR]
 | .bool b, _ => by simp only [ren, VR]
 | .int _ _, _ => by simp only [ren, VR]
 | .str l, _ => by simp only [ren, VR]
 | .nilptr, _ => by simp only [ren, VR]
 | .ptr i o, _ => by simp only [ren, VR]; exact Iff.rfl
 | .nilsl, _ => by simp only [ren, VR]
 | .sl i o l c z, _ => by simp only [ren, VR]; exact Iff.rfl
 | .esl i, _ => by simp only [ren, VR]; exact Iff.rfl
 | .nilmp, _ => by simp only [ren, VR]
 | .mp i, _ => by simp only [ren, VR]; exact Iff.rfl
 | .nilfn, _ => by simp only [ren, VR]
 | .fn g a b, v => by
  have ha := fun L => vrs_ren (ρ := ρ) (f := f) a L
  have hb := fun L => vrs_ren (ρ := ρ) (f := f) b L
  have hg : ∀ f', FR ρ (renF f g) f' ↔ FR (pull ρ f) g f' := fun f' => by
   cases g <;> simp only [renF, FR] <;> exact Iff.rfl
  simp only [ren, VR, ha, hb, hg]
 | .nilifc, _ => by simp only [ren, VR]
 | .ifc t a, v => by
  have ha := fun x => vr_ren (ρ := ρ) (f := f) a x
  simp only [ren, VR, ha]
 | .agg l, v => by
  have ha := fun L => vrs_ren (ρ := ρ) (f := f) l L
  simp only [ren, VR, ha]
 | .tup l, v => by
  have ha := fun L => vrs_ren (ρ := ρ) (f := f) l L
  simp only [ren, VR, ha]
 | .gptr g o, _ => by simp only [ren, VR]
 | .anyb, _ => by simp only [ren, VR]
 | .big n, _ => by simp only [ren, VR]
 | .low n, _ => by simp only [ren, VR]
 | .anyi, _ => by simp only [ren, VR]
 | .rsl n z l, _ => by simp only [ren, VR]; exact Iff.rfl
 | .rptr l, _ => by simp only [ren, VR]; exact Iff.rfl
 | .csl, _ => by simp only [ren, VR]
 | .own i m z, _ => by simp only [ren, VR]; exact Iff.rfl
 | .optr i m o, _ => by simp only [ren, VR]; exact Iff.rfl
theorem vrs_ren {ρ : Map} {f : Nat → Nat} : ∀ (l : List AV) (L : List Value), VRs ρ (rens f l) L ↔ VRs (pull ρ f) l L
 | [], _ => by simp only [rens, VRs]
 | a :: l, L => by
  have ha := fun x => vr_ren (ρ := ρ) (f := f) a x
  have hl := fun M => vrs_ren (ρ := ρ) (f := f) l M
  simp only [rens, VRs, ha, hl]
end
/-! ## others' numbers: those handed over in their numbers, those of their own -/
def sg (is : List Nat) (b j : Nat) : Nat := match is with
 | [] => b + j
 | i :: r => (match j with | 0 => i | j + 1 => sg r b j)
def tau : List Nat → Nat → Nat → Option Nat
 | [], b, i => if b ≤ i then some (i - b) else none
 | x :: r, b, i => if i = x then some 0 else (tau r b i).map (· + 1)
def apart (b : Nat) : List Nat → Bool
 | [] => true
 | i :: r => (match Nat.ble (i + 1) b with | true => (match inL r i with | false => apart b r | true => false) | false => false)
theorem inL_of {xs : List Nat} {i : Nat} (h : i ∈ xs) : inL xs i = true := by
 induction xs with
 | nil => cases h
 | cons x r ih =>
  unfold inL
  rcases List.mem_cons.1 h with rfl | h
  ·simp only [Nat.beq_refl]
  ·split
   ·rfl
   ·exact ih h
theorem apart_cons {b i : Nat} {r : List Nat} (h : apart b (i :: r) = true) : i < b ∧ i ∉ r ∧ apart b r = true := by
 simp only [apart] at h
 split at h
 ·rename_i h1
  split at h
  ·rename_i h2
   refine ⟨bleT h1, ?_, h⟩
   intro q
   rw [inL_of q] at h2
   cases h2
  ·cases h
 ·cases h
theorem sg_in : ∀ (is : List Nat) (b j : Nat), sg is b j ∈ is ∨ b ≤ sg is b j
 | [], b, j => .inr (by simp only [sg]; omega)
 | i :: r, b, 0 => .inl (by simp only [sg]; exact List.mem_cons_self)
 | i :: r, b, j + 1 => by
  simp only [sg]
  rcases sg_in r b j with h | h
  ·exact .inl (List.mem_cons_of_mem _ h)
  ·exact .inr h
theorem tau_sg : ∀ {is : List Nat} {b : Nat} (j : Nat), apart b is = true → tau is b (sg is b j) = some j
 | [], b, j, _ => by
  have e : sg [] b j = b + j := rfl
  rw [e]
  simp only [tau]
  rw [if_pos (by omega)]; congr 1; omega
 | i :: r, b, 0, _ => by
  have e : sg (i :: r) b 0 = i := rfl
  rw [e]
  simp only [tau, if_pos]
 | i :: r, b, j + 1, h => by
  obtain ⟨h1, h2, h3⟩ := apart_cons h
  have e : sg (i :: r) b (j + 1) = sg r b j := rfl
  rw [e]
  simp only [tau]
  rw [if_neg (fun e => by rcases sg_in r b j with q | q; exact h2 (e ▸ q); omega), tau_sg j h3]; rfl
theorem sg_tau : ∀ {is : List Nat} {b i j : Nat}, tau is b i = some j → sg is b j = i
 | [], b, i, j, h => by
  simp only [tau] at h
  split at h
  ·cases h; simp only [sg]; omega
  ·cases h
 | x :: r, b, i, j, h => by
  simp only [tau] at h
  split at h
  ·cases h; rename_i e; simp only [sg]; exact e.symm
  ·cases j with
   | zero => cases q : tau r b i <;> rw [q] at h <;> cases h
   | succ j =>
    simp only [sg]
    refine sg_tau (is := r) (b := b) ?_
    cases q : tau r b i with
    | none => rw [q] at h; cases h
    | some k => rw [q] at h; cases h; rfl
theorem sg_lt : ∀ {is : List Nat} {b j : Nat}, apart b is = true → j < is.length → sg is b j < b
 | i :: r, b, 0, h, _ => by simp only [sg]; exact (apart_cons h).1
 | i :: r, b, j + 1, h, hj => by simp only [sg]; exact sg_lt (apart_cons h).2.2 (by simpa using hj)
theorem sg_ge : ∀ {is : List Nat} {b j : Nat}, is.length ≤ j → sg is b j = b + (j - is.length)
 | [], b, j, _ => by simp only [sg, List.length_nil]; omega
 | i :: r, b, 0, h => by simp at h
 | i :: r, b, j + 1, h => by
  simp only [sg]
  rw [sg_ge (by simpa using h)]
  simp only [List.length_cons]; omega
theorem sg_inj {is : List Nat} {b i j : Nat} (h : apart b is = true) (e : sg is b i = sg is b j) : i = j := by
 have := tau_sg i h
 rw [e, tau_sg j h] at this
 cases this; rfl
theorem tau_lt {is : List Nat} {b i j : Nat} (h : tau is b i = some j) (hi : i < b) : j < is.length := by
 have := sg_tau h
 rcases Nat.lt_or_ge j is.length with q | q
 ·exact q
 ·rw [sg_ge q] at this; omega
noncomputable def mixN : Nat → Heap → List Nat → List AB → Heap
 | n, h, i :: is, b :: bs => mixN n (h.put i b) is bs
 | n, h, [], b :: bs => mixN (n + 1) (newAt n h b) [] bs
 | _, h, _, [] => h
theorem mix_get_new : ∀ (bs : List AB) (b : Nat) (h : Heap) (i : Nat), (mixN b h [] bs).get i = (match tau [] b i with | some j => (bs[j]?).getD (h.get i) | none => h.get i)
 | [], b, h, i => by
  simp only [mixN]
  split <;> simp
 | x :: bs, b, h, i => by
  simp only [mixN]
  rw [mix_get_new bs (b + 1) (newAt b h x) i]
  have hg : (newAt b h x).get i = if i = b then x else h.get i := Px.get_set _ _ _ _ _
  simp only [tau]
  by_cases h1 : i = b
  ·subst h1
   rw [if_neg (by omega), if_pos (Nat.le_refl _)]
   simp only [hg, if_pos, Nat.sub_self]; rfl
  ·by_cases h2 : b ≤ i
   ·rw [if_pos (by omega), if_pos h2]
    simp only [hg, if_neg h1]
    rw [show i - b = (i - (b + 1)) + 1 by omega]; rfl
   ·rw [if_neg (by omega), if_neg h2]
    simp only [hg, if_neg h1]
theorem mix_get : ∀ (is : List Nat) (bs : List AB) (b : Nat) (h : Heap) (i : Nat), is.length ≤ bs.length → apart b is = true → (mixN b h is bs).get i = (match tau is b i with | some j => (bs[j]?).getD (h.get i) | none => h.get i)
 | [], bs, b, h, i, _, _ => mix_get_new bs b h i
 | x :: is, [], b, h, i, hl, _ => by simp at hl
 | x :: is, y :: bs, b, h, i, hl, ha => by
  obtain ⟨h1, h2, h3⟩ := apart_cons ha
  simp only [mixN]
  rw [mix_get is bs b (h.put x y) i (by simpa using hl) h3]
  simp only [tau, Heap.get_put]
  by_cases e : i = x
  ·subst e
   have : tau is b i = none := by
    cases q : tau is b i with
    | none => rfl
    | some j =>
     have := sg_tau q
     rcases sg_in is b j with r | r
     ·exact absurd (this ▸ r) h2
     ·omega
   rw [this]
   simp
  ·simp only [if_neg e]
   cases q : tau is b i with
   | none => rfl
   | some j => rfl
theorem mix_nxt : ∀ (is : List Nat) (bs : List AB) (b : Nat) (h : Heap), is.length ≤ bs.length → h.nxt = b → (mixN b h is bs).nxt = b + (bs.length - is.length)
 | [], [], b, h, _, e => by simpa [mixN] using e
 | [], x :: bs, b, h, _, e => by
  simp only [mixN]
  rw [mix_nxt [] bs (b + 1) (newAt b h x) (by simp) rfl]
  simp only [List.length_nil, List.length_cons]; omega
 | x :: is, [], b, h, hl, _ => by simp at hl
 | x :: is, y :: bs, b, h, hl, e => by
  simp only [mixN]
  rw [mix_nxt is bs b (h.put x y) (by simpa using hl) e]
  simp only [List.length_cons]; omega
theorem mix_tip : ∀ (is : List Nat) (bs : List AB) (b : Nat) (h : Heap) (q : Nat), (mixN b h is bs).tip q = h.tip q
 | [], [], b, h, q => rfl
 | [], x :: bs, b, h, q => by simp only [mixN]; rw [mix_tip [] bs]; rfl
 | x :: is, [], b, h, q => rfl
 | x :: is, y :: bs, b, h, q => by simp only [mixN]; rw [mix_tip is bs]; rfl
/-! ## what is handed over -/
inductive MB where
 | no
 | row (t : TypeId) (cs : List AV)
 | arr (t : TypeId) (z n : Nat) (l : List AV)
def MB.ab : MB → AB
 | .no => .none
 | .row t cs => .row ⟨t, cs.length, .leaf, cs, none⟩
 | .arr t z n l => .arr t z n l
def MB.ren (f : Nat → Nat) : MB → MB
 | .no => .no
 | .row t cs => .row t (rens f cs)
 | .arr t z n l => .arr t z n l
def MB.low (k : Nat) : MB → Bool
 | .row _ cs => lowsB k cs
 | _ => true
def lowM (k : Nat) : List MB → Bool
 | [] => true
 | b :: r => (match b.low k with | true => lowM k r | false => false)
theorem lowM_at {k : Nat} : ∀ {bs : List MB} {j : Nat} {b : MB}, lowM k bs = true → bs[j]? = some b → b.low k = true
 | [], j, b, _, h => by simp at h
 | x :: r, j, b, h, e => by
  simp only [lowM] at h
  split at h
  ·rename_i hx
   cases j with
   | zero => simp at e; subst e; exact hx
   | succ j => exact lowM_at (bs := r) h (by simpa using e)
  ·cases h
def MbAt (h : Heap) (i : Nat) (b : MB) : Prop :=
 match b with
 | .no => True
 | .row t cs => ∃ r, h.get i = .row r ∧ r.t = t ∧ r.n = cs.length ∧ r.root = none ∧ r.read 0 r.n = cs
 | .arr t z n l => h.get i = .arr t z n l
def MB.live : MB → Bool | .no => false | _ => true
def BlksAt (h : Heap) (f : Nat → Nat) : List Nat → List MB → Prop
 | [], [] => True
 | i :: is, b :: bs => (b.live = true ∧ MbAt h i (b.ren f)) ∧ BlksAt h f is bs
 | _, _ => False
theorem BlksAt.len {h : Heap} {f : Nat → Nat} : ∀ {is : List Nat} {bs : List MB}, BlksAt h f is bs → is.length = bs.length
 | [], [], _ => rfl
 | [], _ :: _, h => h.elim
 | _ :: _, [], h => h.elim
 | i :: is, b :: bs, ⟨_, h⟩ => by simp only [List.length_cons, h.len]
theorem BlksAt.at_ {h : Heap} {f : Nat → Nat} : ∀ {is : List Nat} {bs : List MB} {n j : Nat} {b : MB}, BlksAt h f is bs → bs[j]? = some b → b.live = true ∧ MbAt h (sg is n j) (b.ren f)
 | [], [], n, j, b, _, e => by simp at e
 | [], _ :: _, n, j, b, h, _ => h.elim
 | _ :: _, [], n, j, b, h, _ => h.elim
 | i :: is, b :: bs, n, 0, b', ⟨h, _⟩, e => by simp at e; subst e; exact h
 | i :: is, b :: bs, n, j + 1, b', ⟨_, h⟩, e => by simp only [sg]; exact h.at_ (by simpa using e)
def ptrs : List MB → Nat → List AV
 | [], _ => []
 | .row _ _ :: r, j => .ptr j 0 :: ptrs r (j + 1)
 | .arr _ _ _ _ :: r, j => ptrs r (j + 1)
 | .no :: r, j => ptrs r (j + 1)
theorem ptrs_mem : ∀ {bs : List MB} {n j : Nat} {t : TypeId} {cs : List AV}, bs[j]? = some (.row t cs) → AV.ptr (n + j) 0 ∈ ptrs bs n
 | [], n, j, t, cs, h => by simp at h
 | x :: r, n, 0, t, cs, h => by simp at h; subst h; simp [ptrs]
 | x :: r, n, j + 1, t, cs, h => by
  have ih := ptrs_mem (bs := r) (n := n + 1) (j := j) (by simpa using h)
  rw [show n + 1 + j = n + (j + 1) by omega] at ih
  cases x <;> simp only [ptrs] <;> first | exact List.mem_cons_of_mem _ ih | exact ih
def arrI : List Nat → List MB → List Nat
 | i :: is, .row _ _ :: bs => arrI is bs
 | i :: is, _ :: bs => i :: arrI is bs
 | _, _ => []
def rowI : List Nat → List MB → List Nat
 | i :: is, .row _ _ :: bs => i :: rowI is bs
 | i :: is, _ :: bs => rowI is bs
 | _, _ => []
theorem arr_or : ∀ {is : List Nat} {bs : List MB} {i : Nat}, is.length = bs.length → i ∈ is → inL (arrI is bs) i = true ∨ inL (rowI is bs) i = true
 | [], _, i, _, h => by cases h
 | x :: is, [], i, hl, _ => by simp at hl
 | x :: is, b :: bs, i, hl, h => by
  have hl' : is.length = bs.length := by simpa using hl
  rcases List.mem_cons.1 h with rfl | h
  ·cases b <;> simp [arrI, rowI, inL]
  ·rcases arr_or hl' h with q | q
   ·left
    cases b <;> simp only [arrI] <;> first | exact q | (unfold inL; split <;> first | rfl | exact q)
   ·right
    cases b <;> simp only [rowI] <;> first | exact q | (unfold inL; split <;> first | rfl | exact q)
theorem row_at_ : ∀ {is : List Nat} {bs : List MB} {i n : Nat}, inL (rowI is bs) i = true → ∃ j t cs, bs[j]? = some (.row t cs) ∧ sg is n j = i
 | [], _, i, n, h => by simp [rowI, inL] at h
 | x :: is, [], i, n, h => by simp [rowI, inL] at h
 | x :: is, b :: bs, i, n, h => by
  have ih := fun q => row_at_ (is := is) (bs := bs) (i := i) (n := n) q
  cases b with
  | row t cs =>
   simp only [rowI] at h
   unfold inL at h
   split at h
   ·rename_i q; exact ⟨0, t, cs, rfl, by simp only [sg]; exact beqT q⟩
   ·obtain ⟨j, t', cs', h1, h2⟩ := ih h
    exact ⟨j + 1, t', cs', by simpa using h1, by simpa only [sg] using h2⟩
  | no =>
   obtain ⟨j, t', cs', h1, h2⟩ := ih h
   exact ⟨j + 1, t', cs', by simpa using h1, by simpa only [sg] using h2⟩
  | arr a b c d =>
   obtain ⟨j, t', cs', h1, h2⟩ := ih h
   exact ⟨j + 1, t', cs', by simpa using h1, by simpa only [sg] using h2⟩
/-! ## what others hold stays -/
def nin (A : List Nat) (i : Nat) : Bool := match inL A i with | true => false | false => true
def nin2 (A R : List Nat) (i : Nat) : Bool := match inL A i with | true => false | false => nin R i
theorem nin_f {A : List Nat} {i : Nat} (h : nin A i = true) : inL A i = false := by
 unfold nin at h
 split at h
 ·cases h
 ·assumption
theorem nin2_f {A R : List Nat} {i : Nat} (h : nin2 A R i = true) : inL A i = false ∧ inL R i = false := by
 unfold nin2 at h
 split at h
 ·cases h
 ·exact ⟨by assumption, nin_f h⟩
mutual
def okB (A R : List Nat) : AV → Bool
 | .ptr i _ => nin A i
 | .sl i _ _ _ _ => nin2 A R i
 | .esl i => nin2 A R i
 | .mp i => nin2 A R i
 | .own i _ _ => nin2 A R i
 | .optr i _ _ => nin2 A R i
 | .fn f a b => (match (match f with | .yield l => nin2 A R l | _ => true) with | true => (match oksB A R a with | true => oksB A R b | false => false) | false => false)
 | .ifc _ a => okB A R a
 | .agg l => oksB A R l
 | .tup l => oksB A R l
 | _ => true
def oksB (A R : List Nat) : List AV → Bool
 | [] => true
 | a :: l => (match okB A R a with | true => oksB A R l | false => false)
end
structure SubM (A R : List Nat) (ρ σ : Map) : Prop where
 m : ∀ i p, inL A i = false → inL R i = false → ρ i = some p → σ i = some p
 r : ∀ i B N, inL A i = false → inL R i = true → ρ i = some (B, N) → ∃ N', σ i = some (B, N')
 F : ∀ (b j : Nat) (x : Value), (ρ.F b)[j]? = some x → (σ.F b)[j]? = some x
 V : ∀ i n v, inL A i = false → inL R i = false → ρ.V i n = some v → σ.V i n = some v
theorem SubM.d {A R : List Nat} {ρ σ : Map} (h : SubM A R ρ σ) : Sub ρ.d σ.d := ⟨(fun _ _ e => by cases e), h.F, (fun _ _ _ e => by cases e)⟩
theorem SubM.fz {A R : List Nat} {ρ σ : Map} (h : SubM A R ρ σ) {B o : Nat} {L : List Value} (q : Fz ρ B o L) : Fz σ B o L := fun j x e => h.F B _ x (q j x e)
mutual
theorem okB_ok {A R : List Nat} {ρ σ : Map} (s : SubM A R ρ σ) : ∀ (a : AV) {v : Value}, okB A R a = true → VR ρ a v → VR σ a v
 | .bad, _, _, _ => by simp [VR]
 | .bool b, _, _, q => by simpa [VR] using q
 | .int _ _, _, _, q => by simpa [VR] using q
 | .str l, _, _, q => by simpa [VR] using q
 | .nilptr, _, _, q => by simpa [VR] using q
 | .ptr i o, v, h, q => by
  simp only [okB] at h
  simp only [VR] at q ⊢
  obtain ⟨B, N, e, r⟩ := q
  cases hr : inL R i with
  | true => obtain ⟨N', e'⟩ := s.r i B N (nin_f h) hr e; exact ⟨B, N', e', r⟩
  | false => exact ⟨B, N, s.m i _ (nin_f h) hr e, r⟩
 | .nilsl, _, _, q => by simpa [VR] using q
 | .sl i o l c z, v, h, q => by
  simp only [okB] at h
  simp only [VR] at q ⊢
  obtain ⟨B, N, C, e, r⟩ := q; exact ⟨B, N, C, s.m i _ (nin2_f h).1 (nin2_f h).2 e, r⟩
 | .esl i, v, h, q => by
  simp only [okB] at h
  simp only [VR] at q ⊢
  obtain ⟨B, N, o, C, e, r⟩ := q; exact ⟨B, N, o, C, s.m i _ (nin2_f h).1 (nin2_f h).2 e, r⟩
 | .nilmp, _, _, q => by simpa [VR] using q
 | .mp i, v, h, q => by
  simp only [okB] at h
  simp only [VR] at q ⊢
  obtain ⟨B, N, e, r⟩ := q; exact ⟨B, N, s.m i _ (nin2_f h).1 (nin2_f h).2 e, r⟩
 | .nilfn, _, _, q => by simpa [VR] using q
 | .fn f a b, v, h, q => by
  have h' := h
  simp only [okB] at h'
  split at h'
  ·rename_i hf
   split at h'
   ·rename_i ha
    simp only [VR] at q ⊢
    obtain ⟨f', F, C, e1, e2, e3, e4⟩ := q
    refine ⟨f', F, C, ?_, oksB_ok s a ha e2, oksB_ok s b h' e3, e4⟩
    cases f <;> simp only [FR] at e1 ⊢
    all_goals first | exact e1 | (obtain ⟨B, N, e, r⟩ := e1; exact ⟨B, N, s.m _ _ (nin2_f hf).1 (nin2_f hf).2 e, r⟩)
   ·cases h'
  ·cases h'
 | .nilifc, _, _, q => by simpa [VR] using q
 | .ifc t a, v, h, q => by
  simp only [okB] at h
  simp only [VR] at q ⊢
  obtain ⟨x, e, r⟩ := q; exact ⟨x, okB_ok s a h e, r⟩
 | .agg l, v, h, q => by
  simp only [okB] at h
  simp only [VR] at q ⊢
  obtain ⟨x, e, r⟩ := q; exact ⟨x, oksB_ok s l h e, r⟩
 | .tup l, v, h, q => by
  simp only [okB] at h
  simp only [VR] at q ⊢
  obtain ⟨x, e, r⟩ := q; exact ⟨x, oksB_ok s l h e, r⟩
 | .gptr g o, _, _, q => by simpa [VR] using q
 | .anyb, _, _, q => by simpa [VR] using q
 | .big n, _, _, q => by simpa [VR] using q
 | .low n, _, _, q => by simpa [VR] using q
 | .anyi, _, _, q => by simpa [VR] using q
 | .rsl n z l, v, h, q => by
  simp only [VR] at q ⊢
  obtain ⟨h0, k | ⟨B, o, C, L, e1, e2, e3, e4⟩⟩ := q
  ·exact ⟨h0, .inl k⟩
  ·exact ⟨h0, .inr ⟨B, o, C, L, e1, e2, VRs.mono s.d l e3, s.fz e4⟩⟩
 | .rptr l, v, h, q => by
  simp only [VR] at q ⊢
  obtain ⟨B, o, L, e1, e3, e4⟩ := q
  exact ⟨B, o, L, e1, VRs.mono s.d l e3, s.fz e4⟩
 | .csl, _, _, q => by simpa [VR] using q
 | .own i m z, v, h, q => by
  simp only [okB] at h
  simp only [VR] at q ⊢; exact ⟨s.V _ _ _ (nin2_f h).1 (nin2_f h).2 q.1, q.2⟩
 | .optr i m o, v, h, q => by
  simp only [okB] at h
  simp only [VR] at q ⊢
  obtain ⟨B, C, e1, e2⟩ := q
  exact ⟨B, C, s.V _ _ _ (nin2_f h).1 (nin2_f h).2 e1, e2⟩
theorem oksB_ok {A R : List Nat} {ρ σ : Map} (s : SubM A R ρ σ) : ∀ (l : List AV) {L : List Value}, oksB A R l = true → VRs ρ l L → VRs σ l L
 | [], _, _, q => by simpa [VRs] using q
 | a :: l, L, h, q => by
  have h' := h
  simp only [oksB] at h'
  split at h'
  ·rename_i ha
   simp only [VRs] at q ⊢
   obtain ⟨x, r, e1, e2, e3⟩ := q
   exact ⟨x, r, okB_ok s a ha e1, oksB_ok s l h' e2, e3⟩
  ·cases h'
end
def ABOk (A R : List Nat) (b : AB) : Prop :=
 match b with
 | .none => True
 | .row r => ((List.range r.n).all fun j => okB A R (r.get j)) = true
 | .loop l => ∃ lst, l.e = T.put und lst .leaf 0 ∧ oksB A R lst = true ∧ nin2 A R l.defers = true
 | .dfr _ => True
 | .arr _ _ _ _ => True
 | _ => False
theorem put_okB {A R : List Nat} : ∀ {lst : List AV}, oksB A R lst = true → ∀ t, okB A R ((T.put und lst (.leaf : T AV) 0).get und t) = true := fun {lst} h t => by
 rw [get_put]
 simp only [Nat.zero_le, if_true, Nat.sub_zero, get_leaf]
 have key : ∀ (l : List AV), oksB A R l = true → ∀ (i : Nat) (a : AV), l[i]? = some a → okB A R a = true := by
  intro l
  induction l with
  | nil => intro _ i a q; simp at q
  | cons x l ih =>
   intro h i a q
   simp only [oksB] at h
   split at h
   ·rename_i hx
    cases i with
    | zero => simp at q; subst q; exact hx
    | succ i => exact ih h i a (by simpa using q)
   ·cases h
 cases hq : lst[t]? with
 | none => rfl
 | some a => exact key lst h t a hq
theorem ABR.okm {A R : List Nat} {ρ σ : Map} (s : SubM A R ρ σ) {b : AB} (hb : ABOk A R b) {B N : Nat} {w : World} (h : ABR ρ b B N w) : ABR σ b B N w := by
 cases b with
 | none => trivial
 | row r =>
  refine ⟨h.1, h.2.1, h.2.2.1, fun j hj => ?_⟩
  obtain ⟨v, a, q⟩ := h.2.2.2 j hj
  exact ⟨v, a, okB_ok s _ (List.all_eq_true.1 hb j (List.mem_range.2 hj)) q⟩
 | loop l =>
  obtain ⟨lst, e1, e2, e3⟩ := hb
  obtain ⟨fn, tm, D, M, a, q, r⟩ := h
  refine ⟨fn, tm, D, M, a, ⟨q.1, fun t => ?_⟩, s.m _ _ (nin2_f e3).1 (nin2_f e3).2 r⟩
  have := q.2 t
  rw [e1] at this ⊢
  exact okB_ok s _ (put_okB e2 t) this
 | dfr b => exact h
 | arr t z m l =>
  have h : RowOk ρ.d ⟨t, m * z, .leaf, l, none⟩ B N w := h
  exact RowOk.mono h s.d
 | map es c => exact hb.elim
 | sit l p => exact hb.elim
 | mit m a b c => exact hb.elim
 | gl r => exact hb.elim
def HOk (is A R : List Nat) (h : Heap) : Prop := allN h.nxt fun i => inL is i = true ∨ ABOk A R (h.get i)
theorem HOk.at_ {is A R : List Nat} {h : Heap} (q : HOk is A R h) (wf : WF h) {i : Nat} (hi : i ∉ is) : ABOk A R (h.get i) := by
 rcases Nat.lt_or_ge i h.nxt with q' | q'
 ·rcases allN_at q q' with r | r
  ·exact absurd (inL_mem r) hi
  ·exact r
 ·rw [wf.fresh i q']; trivial
end Go.Px
end
section
namespace Go.Px
theorem Row.read_get (r : Row) (n j : Nat) (h : j < n) : (r.read 0 n).getD j .bad = r.get j := by
 rw [Row.read_eq, List.getD_eq_getElem?_getD, Row.readS_at r n 0 j h, Nat.zero_add]; rfl
theorem sg_mem {b : Nat} : ∀ {is : List Nat} {i : Nat}, i ∈ is → ∃ j, j < is.length ∧ sg is b j = i
 | x :: r, i, h => by
  rcases List.mem_cons.1 h with rfl | h
  ·exact ⟨0, by simp, rfl⟩
  ·obtain ⟨j, j1, j2⟩ := sg_mem (b := b) h
   exact ⟨j + 1, by simpa using j1, by simpa only [sg] using j2⟩
theorem hq_get (N : Nat) (bs : List AB) (i : Nat) : (hq N bs).get i = (bs[i]?).getD .none := by
 show (T.put AB.none bs .leaf 0).get .none i = _
 rw [get_put]
 simp
theorem hq_ab (N : Nat) (bs : List MB) (i : Nat) : (hq N (bs.map MB.ab)).get i = ((bs[i]?).map MB.ab).getD .none := by
 rw [hq_get, List.getElem?_map]
theorem hq_mb {N : Nat} {bs : List MB} {i : Nat} {b : AB} (h : (hq N (bs.map MB.ab)).get i = b) (hn : b ≠ .none) : ∃ x, bs[i]? = some x ∧ x.ab = b := by
 rw [hq_ab] at h
 cases e : bs[i]? with
 | none => rw [e] at h; exact absurd h.symm hn
 | some x => rw [e] at h; exact ⟨x, rfl, h⟩
theorem hq_wf {N : Nat} {bs : List MB} (hN : bs.length = N) : WF (hq N (bs.map MB.ab)) := by
 refine ⟨fun i hi => ?_, fun i r q a b => ?_, fun i r q t a b c => ?_, fun q _ => get_leaf none q⟩
 ·have hi : N ≤ i := hi
  rw [hq_ab, List.getElem?_eq_none (by omega)]; rfl
 ·obtain ⟨x, x1, x2⟩ := hq_mb a (by simp)
  cases x <;> simp only [MB.ab] at x2 <;> cases x2
  cases b
 ·obtain ⟨x, x1, x2⟩ := hq_mb a (by simp)
  cases x <;> simp only [MB.ab] at x2 <;> cases x2
  cases b
theorem hq_okm {N : Nat} {bs : List MB} {i : Nat} (h : (hq N (bs.map MB.ab)).ok i) : ∃ x, bs[i]? = some x ∧ (hq N (bs.map MB.ab)).get i = x.ab ∧ x.live = true := by
 have hne : (hq N (bs.map MB.ab)).get i ≠ .none := fun q => by unfold Heap.ok at h; rw [q] at h; exact h
 obtain ⟨x, x1, x2⟩ := hq_mb (b := (hq N (bs.map MB.ab)).get i) rfl hne
 refine ⟨x, x1, x2.symm, ?_⟩
 cases x with
 | no => exact absurd x2.symm hne
 | row t cs => rfl
 | arr t z n l => rfl
def opnOf (ρ : Map) (B : Nat) : Prop := ∃ j N, ρ j = some (B, N)
def inMap (ρ : Map) (is : List Nat) (b k : Nat) : Map := cutN (pull ρ (sg is b)) k
theorem inMap_m {ρ : Map} {is : List Nat} {b k j : Nat} {p : Nat × Nat} (h : inMap ρ is b k j = some p) : j < k ∧ ρ (sg is b j) = some p := by
 unfold inMap at h
 by_cases hj : j < k
 ·rw [cutN_m hj] at h; exact ⟨hj, h⟩
 ·rw [cutN_n hj] at h; cases h
theorem MbAt.okk {h : Heap} {i : Nat} {b : MB} (hl : b.live = true) (hb : MbAt h i b) : h.ok i := by
 cases b with
 | no => cases hl
 | row t cs =>
  obtain ⟨r, r1, _, _, r4, _⟩ := hb
  unfold Heap.ok; rw [r1]; simp only []; rw [Heap.row_of r1, r4]; rfl
 | arr t z n l =>
  have hb : h.get i = .arr t z n l := hb
  unfold Heap.ok; rw [hb]; trivial
theorem MbAt.noroot {h : Heap} {i : Nat} {b : MB} (hl : b.live = true) (hb : MbAt h i b) {r : Row} (e : h.get i = .row r) : r.root = none := by
 cases b with
 | no => cases hl
 | row t cs =>
  obtain ⟨r', r1, _, _, r4, _⟩ := hb
  rw [r1] at e; cases e; exact r4
 | arr t z n l =>
  have hb : h.get i = .arr t z n l := hb
  rw [hb] at e; cases e
theorem MbAt.nogl {h : Heap} {i : Nat} {b : MB} (hl : b.live = true) (hb : MbAt h i b) {r : Row} : h.get i ≠ .gl r := by
 cases b with
 | no => cases hl
 | row t cs =>
  obtain ⟨r', r1, _⟩ := hb
  rw [r1]; exact fun e => by cases e
 | arr t z n l =>
  have hb : h.get i = .arr t z n l := hb
  rw [hb]; exact fun e => by cases e
theorem ren_live {f : Nat → Nat} {b : MB} : (b.ren f).live = b.live := by cases b <;> rfl
section
variable {X : Cx} {ρ : Map} {h : Heap} {w : World} (p : PI X ρ h w) {is : List Nat} {bs : List MB}
include p
theorem PI.enter (hg : ∀ i r, X.c.g0.get i ≠ .gl r) (hap : apart h.nxt is = true) (hb : BlksAt h (sg is h.nxt) is bs) (hlow : lowM bs.length bs = true) {gx : List Value} (hgx : VRs (inMap ρ is h.nxt bs.length) (ptrs bs 0) gx) :
  PI ⟨X.c, w, ρ.F, opnOf (inMap ρ is h.nxt bs.length), none, none, [], ptrs bs 0, gx⟩ (inMap ρ is h.nxt bs.length) (hq bs.length (bs.map MB.ab)) w := by
 have hlen := hb.len
 refine ⟨⟨fun i B N e => p.hr.lt _ B N (inMap_m e).2, fun i B N e q => ?_, fun i j B N M hij e1 e2 k1 k2 => ?_, fun i r q => ?_, p.hr.fz, fun i B N e q => ?_, fun i t z n l q => ?_⟩, hq_wf rfl, ⟨fun i hi => cutN_n (show ¬ i < bs.length from Nat.not_lt.2 hi), fun i r q => absurd q (hg i r)⟩, fun i hi n => if_neg (show ¬ i < bs.length from Nat.not_lt.2 hi), fun i t z n l q m' hm' => ?_, ⟨Same.refl w, fun _ _ => rfl⟩, fun i B N e hs => hs.2 ⟨i, N, e⟩, fun _ _ _ e => e, fun _ _ => rfl, hgx, fun G q => by cases q⟩
 ·obtain ⟨hi, e'⟩ := inMap_m e
  obtain ⟨x, x1, x2, x3⟩ := hq_okm q
  obtain ⟨_, y2⟩ := hb.at_ (n := h.nxt) x1
  have hok := MbAt.okk (by rw [ren_live]; exact x3) y2
  have hr := p.hr.ok _ B N e' hok
  rw [x2]
  cases x with
  | no => trivial
  | arr t z n l =>
   have y2 : h.get (sg is h.nxt i) = .arr t z n l := y2
   rw [y2] at hr; exact hr
  | row t cs =>
   obtain ⟨r, r1, r2, r3, r4, r5⟩ := y2
   rw [r1] at hr
   have hr : RowOk ρ r B N w := hr
   rw [rens_length] at r3
   refine ⟨by rw [← r2]; exact hr.1, by rw [← r3]; exact hr.2.1, hr.2.2.1, fun j hj => ?_⟩
   have hj : j < cs.length := hj
   obtain ⟨v, v1, v2⟩ := hr.2.2.2 j (by omega)
   refine ⟨v, v1, ?_⟩
   rw [row_at_i hj]
   have e5 : r.get j = ren (sg is h.nxt) (cs.getD j .bad) := by
    rw [← rens_get, ← r5, Row.read_get r r.n j (by omega)]
   rw [e5] at v2
   exact low_ok _ (lows_at (lowM_at hlow x1) hj) ((vr_ren _ _).1 v2)
 ·obtain ⟨x, x1, x2, x3⟩ := hq_okm k1
  obtain ⟨y, y1, y2, y3⟩ := hq_okm k2
  obtain ⟨_, z1⟩ := hb.at_ (n := h.nxt) x1
  obtain ⟨_, z2⟩ := hb.at_ (n := h.nxt) y1
  obtain ⟨r, s, q, a, b, c, _⟩ := p.hr.inj _ _ B N M (fun e => hij (sg_inj hap e)) (inMap_m e1).2 (inMap_m e2).2 (MbAt.okk (by rw [ren_live]; exact x3) z1) (MbAt.okk (by rw [ren_live]; exact y3) z2)
  rw [MbAt.noroot (by rw [ren_live]; exact x3) z1 a] at c; cases c
 ·obtain ⟨x, x1, x2⟩ := hq_mb q (by simp)
  cases x <;> simp only [MB.ab] at x2 <;> cases x2
 ·obtain ⟨x, x1, x2, x3⟩ := hq_okm q
  obtain ⟨_, z1⟩ := hb.at_ (n := h.nxt) x1
  exact .inl (p.hr.F_row (inMap_m e).2 (MbAt.okk (by rw [ren_live]; exact x3) z1) (fun r => MbAt.nogl (by rw [ren_live]; exact x3) z1))
 ·obtain ⟨x, x1, x2⟩ := hq_mb q (by simp)
  cases x <;> simp only [MB.ab] at x2 <;> cases x2
  obtain ⟨_, y2⟩ := hb.at_ (n := h.nxt) x1
  have hi := (List.getElem?_eq_some_iff.1 x1).1
  obtain ⟨h0, ⟨a, o, b⟩ | ⟨B, N, C, e1, e2, e3⟩⟩ := p.hr.av _ t z n l y2
  ·exact ⟨h0, .inl ⟨a, o, (cutN_V hi _).trans b⟩⟩
  ·exact ⟨h0, .inr ⟨B, N, C, (cutN_m hi).trans e1, (cutN_V hi _).trans e2, e3⟩⟩
 ·obtain ⟨x, x1, x2⟩ := hq_mb q (by simp)
  cases x <;> simp only [MB.ab] at x2 <;> cases x2
  obtain ⟨_, y2⟩ := hb.at_ (n := h.nxt) x1
  exact (cutN_V (List.getElem?_eq_some_iff.1 x1).1 _).trans (p.vu _ t z n l y2 m' hm')
def outMap (ρ ρ' : Map) (is : List Nat) (b k : Nat) : Map :=
 ⟨fun i => (match tau is b i with | some j => cutN ρ' k j | none => ρ i), ρ'.F, fun i n => (match tau is b i with | some j => (cutN ρ' k).V j n | none => ρ.V i n)⟩
omit p in
theorem outMap_m {ρ ρ' : Map} {is : List Nat} {b k i j : Nat} (e : tau is b i = some j) : outMap ρ ρ' is b k i = cutN ρ' k j := by unfold outMap; simp only [e]
omit p in
theorem outMap_n {ρ ρ' : Map} {is : List Nat} {b k i : Nat} (e : tau is b i = none) : outMap ρ ρ' is b k i = ρ i := by unfold outMap; simp only [e]
omit p in
theorem outMap_V {ρ ρ' : Map} {is : List Nat} {b k i j : Nat} (e : tau is b i = some j) (n : Nat) : (outMap ρ ρ' is b k).V i n = (cutN ρ' k).V j n := by unfold outMap; simp only [e]
omit p in
theorem outMap_W {ρ ρ' : Map} {is : List Nat} {b k i : Nat} (e : tau is b i = none) (n : Nat) : (outMap ρ ρ' is b k).V i n = ρ.V i n := by unfold outMap; simp only [e]
omit p in
theorem outMap_ren {ρ ρ' : Map} {is : List Nat} {b k : Nat} (hap : apart b is = true) {v : AV} {z : Value} (hl : lowB k v = true) (h : VR ρ' v z) : VR (outMap ρ ρ' is b k) (ren (sg is b) v) z := by
 refine (vr_ren _ _).2 (VR.mono (ρ := cutN ρ' k) (σ := pull (outMap ρ ρ' is b k) (sg is b)) ⟨fun i q e => ?_, fun _ _ _ e => e, fun i n q e => ?_⟩ v (low_ok v hl h))
 ·show outMap ρ ρ' is b k (sg is b i) = some q
  rw [outMap_m (tau_sg i hap)]; exact e
 ·show (outMap ρ ρ' is b k).V (sg is b i) n = some q
  rw [outMap_V (tau_sg i hap)]; exact e
theorem PI.back (hg : ∀ i r, X.c.g0.get i ≠ .gl r) (hap : apart h.nxt is = true) (hb : BlksAt h (sg is h.nxt) is bs) {gx : List Value} (hgx : VRs (inMap ρ is h.nxt bs.length) (ptrs bs 0) gx)
  (hI : HOk is (arrI is bs) (rowI is bs) h) (hG : oksB (arrI is bs) (rowI is bs) X.gv = true) (hz : X.g = none ∨ (nin is 0 && nin is 1 && Nat.ble 2 h.nxt) = true) {bs' : List MB} (hle : bs.length ≤ bs'.length) (hlow : lowM bs'.length bs' = true) {ρ' : Map} {w' : World}
  (q : PI ⟨X.c, w, ρ.F, opnOf (inMap ρ is h.nxt bs.length), none, none, [], ptrs bs 0, gx⟩ ρ' (hq bs'.length (bs'.map MB.ab)) w') :
  PI X (outMap ρ ρ' is h.nxt bs'.length) (mixN h.nxt h is (bs'.map fun b => (b.ren (sg is h.nxt)).ab)) w' ∧ SubM (arrI is bs) (rowI is bs) ρ (outMap ρ ρ' is h.nxt bs'.length) := by
 have hlen := hb.len
 have hle' : is.length ≤ (bs'.map fun b => (b.ren (sg is h.nxt)).ab).length := by rw [List.length_map]; omega
 have hnew : ∀ i, h.nxt ≤ i → ρ i = none := fun i hi => p.fr.1 i hi
 have hsome : ∀ {i j}, tau is h.nxt i = some j → sg is h.nxt j = i := fun e => sg_tau e
 have hnone : ∀ {i}, tau is h.nxt i = none → i ∉ is ∧ i < h.nxt := fun {i} e => by
  constructor
  ·intro hi
   obtain ⟨j, hj, rfl⟩ := sg_mem (b := h.nxt) hi
   rw [tau_sg j hap] at e; cases e
  ·rcases Nat.lt_or_ge i h.nxt with r | r
   ·exact r
   ·have e2 : sg is h.nxt (is.length + (i - h.nxt)) = i := by rw [sg_ge (by omega)]; omega
    rw [← e2, tau_sg _ hap] at e; cases e
 have g1 : ∀ {i j}, tau is h.nxt i = some j → ∀ {b}, bs'[j]? = some b → (mixN h.nxt h is (bs'.map fun b => (b.ren (sg is h.nxt)).ab)).get i = (b.ren (sg is h.nxt)).ab := fun {i j} e {b} hb' => by
  rw [mix_get _ _ _ _ _ hle' hap, e]
  simp only [List.getElem?_map, hb', Option.map_some, Option.getD_some]
 have g2 : ∀ {i}, tau is h.nxt i = none → (mixN h.nxt h is (bs'.map fun b => (b.ren (sg is h.nxt)).ab)).get i = h.get i := fun {i} e => by
  rw [mix_get _ _ _ _ _ hle' hap, e]
 have g3 : ∀ {i j}, tau is h.nxt i = some j → bs'[j]? = none → (mixN h.nxt h is (bs'.map fun b => (b.ren (sg is h.nxt)).ab)).get i = .none := fun {i j} e hb' => by
  rw [mix_get _ _ _ _ _ hle' hap, e]
  simp only [List.getElem?_map, hb', Option.map_none, Option.getD_none]
  have := List.getElem?_eq_none_iff.1 hb'
  have e2 := hsome e
  rw [sg_ge (by omega)] at e2
  exact p.wf.fresh i (by omega)
 have gn := mix_nxt is (bs'.map fun b => (b.ren (sg is h.nxt)).ab) h.nxt h hle' rfl
 rw [List.length_map] at gn
 have gt := mix_tip is (bs'.map fun b => (b.ren (sg is h.nxt)).ab) h.nxt h
 generalize mixN h.nxt h is (bs'.map fun b => (b.ren (sg is h.nxt)).ab) = H at *
 have hin : ∀ {i j}, tau is h.nxt i = some j → H.ok i → ∃ b, bs'[j]? = some b ∧ H.get i = (b.ren (sg is h.nxt)).ab ∧ b.live = true ∧ (hq bs'.length (bs'.map MB.ab)).ok j ∧ (hq bs'.length (bs'.map MB.ab)).get j = b.ab := fun {i j} e o => by
  cases hb' : bs'[j]? with
  | none => unfold Heap.ok at o; rw [g3 e hb'] at o; exact o.elim
  | some b =>
   have hgj : (hq bs'.length (bs'.map MB.ab)).get j = b.ab := by rw [hq_ab, hb']; rfl
   refine ⟨b, rfl, g1 e hb', ?_, ?_, hgj⟩
   ·cases b with
    | no => unfold Heap.ok at o; rw [g1 e hb'] at o; exact o.elim
    | row t cs => rfl
    | arr t z n l => rfl
   ·cases b with
    | no => unfold Heap.ok at o; rw [g1 e hb'] at o; exact o.elim
    | row t cs =>
     have hgj : (hq bs'.length (bs'.map MB.ab)).get j = .row ⟨t, cs.length, .leaf, cs, none⟩ := hgj
     unfold Heap.ok; rw [hgj]; simp only []; rw [Heap.row_of hgj]; rfl
    | arr t z n l =>
     have hgj : (hq bs'.length (bs'.map MB.ab)).get j = .arr t z n l := hgj
     unfold Heap.ok; rw [hgj]; trivial
 have hoth : ∀ {i}, tau is h.nxt i = none → (H.ok i ↔ h.ok i) := fun e => Heap.ok_same (g2 e) (fun r q _ _ => by rw [gt])
 have hsz : w.heap.size ≤ w'.heap.size := q.ext.1.size
 have other : ∀ {i B N}, tau is h.nxt i = none → ρ i = some (B, N) → h.ok i → ¬ opnOf (inMap ρ is h.nxt bs.length) B := fun {i B N} e e1 o ⟨j, M, ej⟩ => by
  obtain ⟨hj, e2⟩ := inMap_m ej
  have hne : i ≠ sg is h.nxt j := fun ee => by rw [ee, tau_sg j hap] at e; cases e
  obtain ⟨b, hbj⟩ : ∃ b, bs[j]? = some b := ⟨_, List.getElem?_eq_getElem hj⟩
  obtain ⟨y1, y2⟩ := hb.at_ (n := h.nxt) hbj
  obtain ⟨r, s, qq, a, c, d, f⟩ := p.hr.inj i _ B N M hne e1 e2 o (MbAt.okk (by rw [ren_live]; exact y1) y2)
  rw [MbAt.noroot (by rw [ren_live]; exact y1) y2 c] at f; cases f
 have stay : ∀ {i B N}, tau is h.nxt i = none → ρ i = some (B, N) → h.ok i → w'.heap[B]? = w.heap[B]? ∧ ρ'.F B = ρ.F B := fun {i B N} e e1 o => by
  have hB := p.hr.lt i B N e1
  exact ⟨q.ext.2 B ⟨hB, other e e1 o⟩, q.old B ⟨hB, other e e1 o⟩⟩
 have open_ : ∀ {B}, opnOf (inMap ρ is h.nxt bs.length) B → ¬ X.shut B := fun {B} ⟨j, M, ej⟩ => p.mine _ B M (inMap_m ej).2
 have hs : SubM (arrI is bs) (rowI is bs) ρ (outMap ρ ρ' is h.nxt bs'.length) := by
  refine ⟨fun i pp a r e => ?_, fun i B N a r e => ?_, q.sub, fun i n v a r e => ?_⟩
  ·cases ht : tau is h.nxt i with
   | none => rw [outMap_n ht]; exact e
   | some j =>
    have hi : i < h.nxt := by
     rcases Nat.lt_or_ge i h.nxt with x | x
     ·exact x
     ·rw [hnew i x] at e; cases e
    have hj := tau_lt ht hi
    have hmem : i ∈ is := by
     rcases sg_in is h.nxt j with x | x
     ·rw [hsome ht] at x; exact x
     ·rw [hsome ht] at x; omega
    rcases arr_or hlen hmem with x | x
    ·rw [a] at x; cases x
    ·rw [r] at x; cases x
  ·obtain ⟨j, t, cs, j1, j2⟩ := row_at_ (n := h.nxt) r
   have hj := (List.getElem?_eq_some_iff.1 j1).1
   have hm := ptrs_mem (n := 0) j1
   rw [Nat.zero_add] at hm
   obtain ⟨m, hm⟩ := List.getElem?_of_mem hm
   have k1 := VRs.iff.1 hgx
   have k2 := VRs.iff.1 q.keep
   have hgl : m < gx.length := by rw [← k1.1]; exact (List.getElem?_eq_some_iff.1 hm).1
   have v1 := k1.2 m _ _ hm (List.getElem?_eq_getElem hgl)
   have v2 := k2.2 m _ _ hm (List.getElem?_eq_getElem hgl)
   simp only [VR] at v1 v2
   obtain ⟨B1, N1, c1, d1⟩ := v1
   obtain ⟨B2, N2, c2, d2⟩ := v2
   rw [d1] at d2
   cases d2
   have := (inMap_m c1).2
   rw [j2, e] at this
   cases this
   refine ⟨N2, ?_⟩
   rw [← j2, outMap_m (tau_sg j hap), cutN_m (by omega)]; exact c2
  ·cases ht : tau is h.nxt i with
   | none => rw [outMap_W ht]; exact e
   | some j =>
    have hi : i < h.nxt := by
     rcases Nat.lt_or_ge i h.nxt with x | x
     ·exact x
     ·rw [p.vf i x] at e; cases e
    have hmem : i ∈ is := by
     rcases sg_in is h.nxt j with x | x
     ·rw [hsome ht] at x; exact x
     ·rw [hsome ht] at x; omega
    rcases arr_or hlen hmem with x | x
    ·rw [a] at x; cases x
    ·rw [r] at x; cases x
 have mineNew : ∀ {j B N}, ρ' j = some (B, N) → ¬ X.shut B := fun {j B N} e hsh => by
  have := q.mine j B N e
  refine this ⟨Nat.lt_of_lt_of_le hsh.1 p.ext.1.size, fun o => open_ o hsh⟩
 refine ⟨⟨⟨fun i B N e => ?_, fun i B N e o => ?_, fun i j B N M hij e1 e2 k1 k2 => ?_, fun i r e => ?_, q.hr.fz, fun i B N e o => ?_, fun i t z n l e => ?_⟩, ⟨fun i hi => ?_, fun i r qq a b => ?_, fun i r qq t a b c => ?_, fun qq hqq => ?_⟩, ⟨fun i hi => ?_, fun i r e => absurd e (hg i r)⟩, fun i hi n => ?_, fun i t z n l e m' hm' => ?_, ⟨p.ext.1.trans q.ext.1, fun b hbs => ?_⟩, fun i B N e => ?_, fun b j x e => q.sub b j x (p.sub b j x e), fun b hbs => ?_, oksB_ok hs _ hG p.keep, hz.elim (fun q G e => by rw [q] at e; cases e) fun hz => p.gh.go (fun t z n l e => ?_) q.ext.1 (fun b hbs hno => q.ext.2 b ⟨hbs, fun ⟨j, M, ej⟩ => ?_⟩) (fun i B N e o => ?_) (fun b hbs hno => q.old b ⟨hbs, fun ⟨j, M, ej⟩ => ?_⟩) (fun B N e => .inl ⟨N, ?_⟩) (fun b e => ?_) q.sub (fun v e => ?_)⟩, hs⟩
 ·cases ht : tau is h.nxt i with
  | none => rw [outMap_n ht] at e; exact Nat.lt_of_lt_of_le (p.hr.lt i B N e) hsz
  | some j =>
   rw [outMap_m ht] at e
   by_cases hj : j < bs'.length
   ·rw [cutN_m hj] at e; exact q.hr.lt j B N e
   ·rw [cutN_n hj] at e; cases e
 ·cases ht : tau is h.nxt i with
  | none =>
   rw [outMap_n ht] at e
   have o' := (hoth ht).1 o
   rw [g2 ht]
   exact ((p.hr.ok i B N e o').block (stay ht e o').1).okm hs (hI.at_ p.wf (hnone ht).1)
  | some j =>
   obtain ⟨b, b1, b2, b3, b4, b5⟩ := hin ht o
   have hj := (List.getElem?_eq_some_iff.1 b1).1
   rw [outMap_m ht, cutN_m hj] at e
   have hr := q.hr.ok j B N e b4
   rw [b5] at hr
   rw [b2]
   cases b with
   | no => trivial
   | arr t z n l => exact hr
   | row t cs =>
    have hr : RowOk ρ' ⟨t, cs.length, .leaf, cs, none⟩ B N w' := hr
    refine ⟨hr.1, by show (rens _ cs).length ≤ N; rw [rens_length]; exact hr.2.1, hr.2.2.1, fun m hm => ?_⟩
    have hm : m < (rens (sg is h.nxt) cs).length := hm
    have hm' : m < cs.length := by rw [rens_length] at hm; exact hm
    obtain ⟨v, v1, v2⟩ := hr.2.2.2 m hm'
    refine ⟨v, v1, ?_⟩
    rw [row_at_i hm'] at v2
    show VR _ (Row.get ⟨t, (rens (sg is h.nxt) cs).length, .leaf, rens (sg is h.nxt) cs, none⟩ m) v
    rw [row_at_i hm, rens_get]
    exact outMap_ren hap (lows_at (lowM_at hlow b1) hm') v2
 ·cases ht : tau is h.nxt i with
  | none =>
   rw [outMap_n ht] at e1
   have o1 := (hoth ht).1 k1
   cases hu : tau is h.nxt j with
   | none =>
    rw [outMap_n hu] at e2
    obtain ⟨r, s, qq, a, b, c⟩ := p.hr.inj i j B N M hij e1 e2 o1 ((hoth hu).1 k2)
    exact ⟨r, s, qq, by rw [g2 ht]; exact a, by rw [g2 hu]; exact b, c⟩
   | some l =>
    exfalso
    obtain ⟨b, b1, b2, b3, b4, b5⟩ := hin hu k2
    have hl := (List.getElem?_eq_some_iff.1 b1).1
    rw [outMap_m hu, cutN_m hl] at e2
    exact q.mine l B M e2 ⟨p.hr.lt i B N e1, other ht e1 o1⟩
  | some l =>
   obtain ⟨b, b1, b2, b3, b4, b5⟩ := hin ht k1
   have hl := (List.getElem?_eq_some_iff.1 b1).1
   rw [outMap_m ht, cutN_m hl] at e1
   exfalso
   cases hu : tau is h.nxt j with
   | none =>
    rw [outMap_n hu] at e2
    exact q.mine l B N e1 ⟨p.hr.lt j B M e2, other hu e2 ((hoth hu).1 k2)⟩
   | some l2 =>
    obtain ⟨b', b1', b2', b3', b4', b5'⟩ := hin hu k2
    have hl' := (List.getElem?_eq_some_iff.1 b1').1
    rw [outMap_m hu, cutN_m hl'] at e2
    obtain ⟨r, s, qq, a, x, c, _⟩ := q.hr.inj l l2 B N M (fun e => hij (by rw [← hsome ht, ← hsome hu, e])) e1 e2 b4 b4'
    rw [b5] at a
    cases b <;> simp only [MB.ab] at a <;> cases a
    cases c
 ·cases ht : tau is h.nxt i with
  | none =>
   rw [g2 ht] at e
   obtain ⟨N, hN⟩ := p.hr.gl i r e
   exact ⟨N, by rw [outMap_n ht]; exact hN⟩
  | some j =>
   obtain ⟨b, b1, b2, b3, b4, b5⟩ := hin ht (by unfold Heap.ok; rw [e]; trivial)
   rw [b2] at e
   cases b <;> cases e
 ·cases ht : tau is h.nxt i with
  | none =>
   rw [outMap_n ht] at e
   have o' := (hoth ht).1 o
   rw [g2 ht]
   show ρ'.F B = [] ∨ _
   rw [(stay ht e o').2]
   exact p.hr.sep i B N e o'
  | some j =>
   obtain ⟨b, b1, b2, b3, b4, b5⟩ := hin ht o
   have hj := (List.getElem?_eq_some_iff.1 b1).1
   rw [outMap_m ht, cutN_m hj] at e
   rcases q.hr.sep j B N e b4 with x | ⟨r, x⟩
   ·exact .inl x
   ·rw [b5] at x
    cases b <;> cases x
 ·cases ht : tau is h.nxt i with
  | none =>
   rw [g2 ht] at e
   obtain ⟨h0, ⟨a, o, b⟩ | ⟨B, N, C, e1, e2, e3⟩⟩ := p.hr.av i t z n l e
   ·exact ⟨h0, .inl ⟨a, o, by rw [outMap_W ht]; exact b⟩⟩
   ·exact ⟨h0, .inr ⟨B, N, C, by rw [outMap_n ht]; exact e1, by rw [outMap_W ht]; exact e2, e3⟩⟩
  | some j =>
   obtain ⟨b, b1, b2, b3, b4, b5⟩ := hin ht (by unfold Heap.ok; rw [e]; trivial)
   have hj := (List.getElem?_eq_some_iff.1 b1).1
   rw [b2] at e
   cases b with
   | no => cases e
   | row _ _ => cases e
   | arr t' z' n' l' =>
    cases e
    obtain ⟨h0, ⟨a, o, b⟩ | ⟨B, N, C, e1, e2, e3⟩⟩ := q.hr.av j _ _ _ _ b5
    ·exact ⟨h0, .inl ⟨a, o, by rw [outMap_V ht, cutN_V hj]; exact b⟩⟩
    ·exact ⟨h0, .inr ⟨B, N, C, by rw [outMap_m ht, cutN_m hj]; exact e1, by rw [outMap_V ht, cutN_V hj]; exact e2, e3⟩⟩
 ·rw [gn] at hi
  cases ht : tau is h.nxt i with
  | none => have := (hnone ht).2; omega
  | some j =>
   have e2 := hsome ht
   refine g3 ht (List.getElem?_eq_none ?_)
   rcases Nat.lt_or_ge j is.length with x | x
   ·have := sg_lt hap x; omega
   ·rw [sg_ge x] at e2; omega
 ·cases ht : tau is h.nxt i with
  | none => rw [g2 ht] at a; have := p.wf.root i r qq a b; omega
  | some j =>
   cases hb' : bs'[j]? with
   | none => rw [g3 ht hb'] at a; cases a
   | some x =>
    rw [g1 ht hb'] at a
    cases x <;> simp only [MB.ren, MB.ab] at a <;> cases a
    cases b
 ·cases ht : tau is h.nxt i with
  | none =>
   rw [g2 ht] at a
   obtain ⟨s, s1, s2, s3⟩ := p.wf.tip i r qq t a b (by rw [← gt]; exact c)
   refine ⟨s, ?_, s2, s3⟩
   cases hu : tau is h.nxt t with
   | none => rw [g2 hu]; exact s1
   | some l =>
    exfalso
    have htn : t < h.nxt := by
     rcases Nat.lt_or_ge t h.nxt with x | x
     ·exact x
     ·rw [p.wf.fresh t x] at s1; cases s1
    have hl := tau_lt hu htn
    obtain ⟨b', hb'⟩ : ∃ b', bs[l]? = some b' := ⟨_, List.getElem?_eq_getElem (by omega)⟩
    obtain ⟨y1, y2⟩ := hb.at_ (n := h.nxt) hb'
    rw [hsome hu] at y2
    rw [MbAt.noroot (by rw [ren_live]; exact y1) y2 s1] at s2; cases s2
  | some j =>
   cases hb' : bs'[j]? with
   | none => rw [g3 ht hb'] at a; cases a
   | some x =>
    rw [g1 ht hb'] at a
    cases x <;> simp only [MB.ren, MB.ab] at a <;> cases a
    cases b
 ·rw [gt]; exact p.wf.tipr qq (by omega)
 ·rw [gn] at hi
  cases ht : tau is h.nxt i with
  | none => have := (hnone ht).2; omega
  | some j =>
   have e2 := hsome ht
   rw [outMap_m ht]
   refine cutN_n (show ¬ j < bs'.length from fun x => ?_)
   rcases Nat.lt_or_ge j is.length with y | y
   ·have := sg_lt hap y; omega
   ·rw [sg_ge y] at e2; omega
 ·rw [gn] at hi
  cases ht : tau is h.nxt i with
  | none => have := (hnone ht).2; omega
  | some j =>
   have e2 := hsome ht
   rw [outMap_V ht]
   refine if_neg (show ¬ j < bs'.length from fun x => ?_)
   rcases Nat.lt_or_ge j is.length with y | y
   ·have := sg_lt hap y; omega
   ·rw [sg_ge y] at e2; omega
 ·cases ht : tau is h.nxt i with
  | none => rw [g2 ht] at e; rw [outMap_W ht]; exact p.vu i t z n l e m' hm'
  | some j =>
   obtain ⟨b, b1, b2, b3, b4, b5⟩ := hin ht (by unfold Heap.ok; rw [e]; trivial)
   have hj := (List.getElem?_eq_some_iff.1 b1).1
   rw [b2] at e
   cases b with
   | no => cases e
   | row _ _ => cases e
   | arr t' z' n' l' =>
    cases e
    rw [outMap_V ht, cutN_V hj]
    exact q.vu j _ _ _ _ b5 m' hm'
 ·have hlt := Nat.lt_of_lt_of_le hbs.1 p.ext.1.size
  rw [q.ext.2 b ⟨hlt, fun o => open_ o hbs⟩]
  exact p.ext.2 b hbs
 ·cases ht : tau is h.nxt i with
  | none => rw [outMap_n ht] at e; exact p.mine i B N e
  | some j =>
   rw [outMap_m ht] at e
   by_cases hj : j < bs'.length
   ·rw [cutN_m hj] at e; exact mineNew e
   ·rw [cutN_n hj] at e; cases e
 ·have hlt := Nat.lt_of_lt_of_le hbs.1 p.ext.1.size
  show ρ'.F b = _
  rw [q.old b ⟨hlt, fun o => open_ o hbs⟩]
  exact p.old b hbs
 ·simp only [Bool.and_eq_true] at hz
  have h0 : tau is h.nxt 0 = none := by
   cases ht : tau is h.nxt 0 with
   | none => rfl
   | some j =>
    have h1 := bleT hz.2
    have hj := tau_lt ht (by omega)
    rcases sg_in is h.nxt j with x | x
    ·rw [hsome ht] at x
     have := nin_f hz.1.1
     rw [inL_of x] at this; cases this
    ·rw [hsome ht] at x; omega
  rw [g2 h0] at e; exact ⟨_, _, _, e⟩
 ·obtain ⟨hj, e2⟩ := inMap_m ej
  obtain ⟨b', hbj⟩ : ∃ b, bs[j]? = some b := ⟨_, List.getElem?_eq_getElem hj⟩
  obtain ⟨y1, y2⟩ := hb.at_ (n := h.nxt) hbj
  exact hno _ M e2 (MbAt.okk (by rw [ren_live]; exact y1) y2)
 ·cases ht : tau is h.nxt i with
  | none => rw [outMap_n ht] at e; exact .inr ⟨i, N, e, (hoth ht).1 o⟩
  | some j =>
   obtain ⟨b, b1, b2, b3, b4, b5⟩ := hin ht o
   have hj := (List.getElem?_eq_some_iff.1 b1).1
   rw [outMap_m ht, cutN_m hj] at e
   rcases Nat.lt_or_ge B w.heap.size with x | x
   ·right
    have hop : opnOf (inMap ρ is h.nxt bs.length) B := Classical.byContradiction fun hn => q.mine j B N e ⟨x, hn⟩
    obtain ⟨j2, M, ej⟩ := hop
    obtain ⟨hj2, e2⟩ := inMap_m ej
    obtain ⟨b', hbj⟩ : ∃ b, bs[j2]? = some b := ⟨_, List.getElem?_eq_getElem hj2⟩
    obtain ⟨y1, y2⟩ := hb.at_ (n := h.nxt) hbj
    exact ⟨_, M, e2, MbAt.okk (by rw [ren_live]; exact y1) y2⟩
   ·exact .inl x
 ·obtain ⟨hj, e2⟩ := inMap_m ej
  obtain ⟨b', hbj⟩ : ∃ b, bs[j]? = some b := ⟨_, List.getElem?_eq_getElem hj⟩
  obtain ⟨y1, y2⟩ := hb.at_ (n := h.nxt) hbj
  exact hno _ M e2 (MbAt.okk (by rw [ren_live]; exact y1) y2)
 ·simp only [Bool.and_eq_true] at hz
  have h0 : tau is h.nxt 1 = none := by
   cases ht : tau is h.nxt 1 with
   | none => rfl
   | some j =>
    have h1 := bleT hz.2
    have hj := tau_lt ht (by omega)
    rcases sg_in is h.nxt j with x | x
    ·rw [hsome ht] at x
     have := nin_f hz.1.2
     rw [inL_of x] at this; cases this
    ·rw [hsome ht] at x; omega
  rw [outMap_n h0]; exact e
 ·have hb1 := p.hr.F_lt e
  refine q.ext.2 b ⟨hb1, fun ⟨j, M, ej⟩ => ?_⟩
  obtain ⟨hj, e2⟩ := inMap_m ej
  obtain ⟨b', hbj⟩ : ∃ b, bs[j]? = some b := ⟨_, List.getElem?_eq_getElem hj⟩
  obtain ⟨y1, y2⟩ := hb.at_ (n := h.nxt) hbj
  exact e (p.hr.F_row e2 (MbAt.okk (by rw [ren_live]; exact y1) y2) (fun r => MbAt.nogl (by rw [ren_live]; exact y1) y2))
 ·simp only [Bool.and_eq_true] at hz
  have h0 : tau is h.nxt 0 = none := by
   cases ht : tau is h.nxt 0 with
   | none => rfl
   | some j =>
    have h1 := bleT hz.2
    have hj := tau_lt ht (by omega)
    rcases sg_in is h.nxt j with x | x
    ·rw [hsome ht] at x
     have := nin_f hz.1.1
     rw [inL_of x] at this; cases this
    ·rw [hsome ht] at x; omega
  rw [outMap_W h0]; exact e
end
end Go.Px
end
section
namespace Go.Px
def hasP (j : Nat) : List AV → Bool
 | [] => false
 | .ptr i _ :: r => (match Nat.beq i j with | true => true | false => hasP j r)
 | _ :: r => hasP j r
def evidB : List AV → List MB → Nat → Bool
 | _, [], _ => true
 | acc, .row _ cs :: r, j => (match hasP j acc with | true => evidB (cs ++ acc) r (j + 1) | false => false)
 | acc, _ :: r, j => evidB acc r (j + 1)
theorem hasP_mem {j : Nat} : ∀ {l : List AV}, hasP j l = true → ∃ o, AV.ptr j o ∈ l
 | [], h => by cases h
 | a :: r, h => by
  have step : hasP j r = true → ∃ o, AV.ptr j o ∈ a :: r := fun q => by
   obtain ⟨o, ho⟩ := hasP_mem q
   exact ⟨o, List.mem_cons_of_mem _ ho⟩
  cases a <;> simp only [hasP] at h <;> first | exact step h | skip
  split at h
  ·rename_i q; rw [← beqT q]; exact ⟨_, List.mem_cons_self⟩
  ·exact step h
structure KM (c : Ctx) (f : FuncId) (bs : List MB) (args : List AV) (v : AV) (bs' : List MB) : Prop where
 le : bs.length ≤ bs'.length
 lo : lowM bs.length bs = true
 la : lowsB bs.length args = true
 lm : lowM bs'.length bs' = true
 lv : lowB bs'.length v = true
 ev : evidB args bs 0 = true
 run : ∀ (ρ : Map) (w : World) (A gx : List Value), PI ⟨c, w, ρ.F, opnOf ρ, none, none, [], ptrs bs 0, gx⟩ ρ (hq bs.length (bs.map MB.ab)) w → VRs ρ args A →
  ∃ nx w1, (callFunc f A.toArray).run c.P w = .ok nx w1 ∧ NextOk c.P (fun z w' => ∃ ρ', PI ⟨c, w, ρ.F, opnOf ρ, none, none, [], ptrs bs 0, gx⟩ ρ' (hq bs'.length (bs'.map MB.ab)) w' ∧ VR ρ' v z) nx w1
/-! ## out of a body -/
def MbsAt (h : Heap) : List MB → Nat → Prop
 | [], _ => True
 | b :: r, i => MbAt h i b ∧ MbsAt h r (i + 1)
theorem MbsAt.at_ {h : Heap} : ∀ {bs : List MB} {n j : Nat} {b : MB}, MbsAt h bs n → bs[j]? = some b → MbAt h (n + j) b
 | [], n, j, b, _, e => by simp at e
 | x :: r, n, 0, b, ⟨a, _⟩, e => by simp at e; subst e; exact a
 | x :: r, n, j + 1, b, ⟨_, a⟩, e => by
  have := a.at_ (j := j) (b := b) (by simpa using e)
  rwa [show n + 1 + j = n + (j + 1) by omega] at this
def FinM (c : Ctx) (res : List ResultVar) (v : AV) (bs' : List MB) : Post := fun x s => (x = .normal ∨ x = .ret) ∧ ∃ h' vs, leave s.h s.m = some h' ∧ resA c h' s.e res = some vs ∧ one vs = v ∧ MbsAt h' bs' 0 ∧ Nat.ble bs'.length h'.nxt = true
theorem low_ptrs : ∀ {bs : List MB} {n k : Nat}, n + bs.length ≤ k → lowsB k (ptrs bs n) = true
 | [], n, k, _ => rfl
 | x :: r, n, k, h => by
  have ih := low_ptrs (bs := r) (n := n + 1) (k := k) (by simp only [List.length_cons] at h; omega)
  cases x <;> simp only [ptrs] <;> first | exact ih | skip
  simp only [lowsB, lowB]
  rw [Nat.ble_eq_true_of_le (by simp only [List.length_cons] at h; omega)]; exact ih
theorem PI.canon {X : Cx} {ρ : Map} {h : Heap} {w : World} (p : PI X ρ h w) (hg : ∀ i r, X.c.g0.get i ≠ .gl r) {bs : List MB} (hb : MbsAt h bs 0) (hlow : lowM bs.length bs = true) (hG : lowsB bs.length X.gv = true) (hz : X.g = none) :
  PI X (cutN ρ bs.length) (hq bs.length (bs.map MB.ab)) w := by
 have hcut : ∀ i q, cutN ρ bs.length i = some q → i < bs.length ∧ ρ i = some q := fun i q e => by
  by_cases hi : i < bs.length
  ·rw [cutN_m hi] at e; exact ⟨hi, e⟩
  ·rw [cutN_n hi] at e; cases e
 have hat : ∀ {i b}, bs[i]? = some b → MbAt h i b := fun {i b} e => by have := hb.at_ e; rwa [Nat.zero_add] at this
 refine ⟨⟨fun i B N e => p.hr.lt _ B N (hcut i _ e).2, fun i B N e q => ?_, fun i j B N M hij e1 e2 k1 k2 => ?_, fun i r q => ?_, p.hr.fz, fun i B N e q => ?_, fun i t z n l q => ?_⟩, hq_wf rfl, ⟨fun i hi => cutN_n (show ¬ i < bs.length from Nat.not_lt.2 hi), fun i r q => absurd q (hg i r)⟩, fun i hi n => if_neg (show ¬ i < bs.length from Nat.not_lt.2 hi), fun i t z n l q m' hm' => ?_, p.ext, fun i B N e => p.mine i B N (hcut i _ e).2, p.sub, p.old, lows_ok _ hG p.keep, fun G e => by rw [hz] at e; cases e⟩
 ·obtain ⟨hi, e'⟩ := hcut i _ e
  obtain ⟨x, x1, x2, x3⟩ := hq_okm q
  have y2 := hat x1
  have hr := p.hr.ok _ B N e' (MbAt.okk x3 y2)
  rw [x2]
  cases x with
  | no => trivial
  | arr t z n l =>
   have y2 : h.get i = .arr t z n l := y2
   rw [y2] at hr; exact hr
  | row t cs =>
   obtain ⟨r, r1, r2, r3, r4, r5⟩ := y2
   rw [r1] at hr
   have hr : RowOk ρ r B N w := hr
   refine ⟨by rw [← r2]; exact hr.1, by rw [← r3]; exact hr.2.1, hr.2.2.1, fun j hj => ?_⟩
   have hj : j < cs.length := hj
   obtain ⟨v, v1, v2⟩ := hr.2.2.2 j (by omega)
   refine ⟨v, v1, ?_⟩
   rw [row_at_i hj]
   have e5 : r.get j = cs.getD j .bad := by rw [← r5, Row.read_get r r.n j (by omega)]
   rw [e5] at v2
   exact low_ok _ (lows_at (lowM_at hlow x1) hj) v2
 ·obtain ⟨x, x1, x2, x3⟩ := hq_okm k1
  obtain ⟨y, y1, y2, y3⟩ := hq_okm k2
  obtain ⟨r, s, q, a, b, c, _⟩ := p.hr.inj _ _ B N M hij (hcut i _ e1).2 (hcut j _ e2).2 (MbAt.okk x3 (hat x1)) (MbAt.okk y3 (hat y1))
  rw [MbAt.noroot x3 (hat x1) a] at c; cases c
 ·obtain ⟨x, x1, x2⟩ := hq_mb q (by simp)
  cases x <;> simp only [MB.ab] at x2 <;> cases x2
 ·obtain ⟨x, x1, x2, x3⟩ := hq_okm q
  exact .inl (p.hr.F_row (hcut i _ e).2 (MbAt.okk x3 (hat x1)) (fun r => MbAt.nogl x3 (hat x1)))
 ·obtain ⟨x, x1, x2⟩ := hq_mb q (by simp)
  cases x <;> simp only [MB.ab] at x2 <;> cases x2
  have y2 := hat x1
  have hi := (List.getElem?_eq_some_iff.1 x1).1
  obtain ⟨h0, ⟨a, o, b⟩ | ⟨B, N, C, e1, e2, e3⟩⟩ := p.hr.av _ t z n l y2
  ·exact ⟨h0, .inl ⟨a, o, (cutN_V hi _).trans b⟩⟩
  ·exact ⟨h0, .inr ⟨B, N, C, (cutN_m hi).trans e1, (cutN_V hi _).trans e2, e3⟩⟩
 ·obtain ⟨x, x1, x2⟩ := hq_mb q (by simp)
  cases x <;> simp only [MB.ab] at x2 <;> cases x2
  exact (cutN_V (List.getElem?_eq_some_iff.1 x1).1 _).trans (p.vu _ t z n l (hat x1) m' hm')
theorem KM.of {c : Ctx} (k : CtxOk c) (hg0 : ∀ i r, c.g0.get i ≠ .gl r) {f : FuncId} {fn : Func} {body : Code} (hf : c.P.funcs[f]? = some fn) (hb : fn.body = some body) {bs : List MB} {args : List AV} {v : AV} {bs' : List MB} {N : Nat} {ab : List AB} {gv : List AV} (hN : bs.length = N) (hA : bs.map MB.ab = ab) (hP : ptrs bs 0 = gv)
  (hlen : args.length ≤ fn.ntmps) (le : Nat.ble bs.length bs'.length = true) (lo : lowM bs.length bs = true) (la : lowsB bs.length args = true) (lm : lowM bs'.length bs' = true) (lv : lowB bs'.length v = true) (ev : evidB args bs 0 = true)
  (H : ∀ w F opn gx, Go ⟨c, w, F, opn, none, none, [], gv, gx⟩ fn.ntmps none [.code body] (argsL args 0) (hq N ab) [] (FinM c fn.results.toList v bs')) : KM c f bs args v bs' := by
 subst hN; subst hA; subst hP
 refine ⟨bleT le, lo, la, lm, lv, ev, fun ρ w A gx hpi hA => ?_⟩
 have hnm : fn.name ≠ "runtime.NumGoroutine" := by simpa using k.names f fn hf
 refine ⟨.enter f A.toArray, w, by simp [callFunc, hf, hnm, hb, Sem.run], ?_⟩
 refine callsIn_of_wp_marks hf hb trivial ?_
 have h := (H w ρ.F (opnOf ρ) gx).run (T.put und args (env0 und fn.ntmps) 0) (argsL_has args _ 0)
 have ht : Tri ⟨c, w, ρ.F, opnOf ρ, none, none, [], ptrs bs 0, gx⟩ fn.ntmps none body ⟨T.put und args (env0 und fn.ntmps) 0, hq bs.length (bs.map MB.ab), []⟩ (FinM c fn.results.toList v bs') := h
 refine ht none ρ w _ _ rfl hpi (args_er hA hlen) ⟨[], rfl, rfl⟩ fun x s' a' w' ρ' ⟨hx, h', vs, q1, q2, q3, q4, q5⟩ g1 g2 g3 g4 => ?_
 have hfin : LeavesInM Fence.wide 0 c.P fn a'.tmps (EndR fun z w' => ∃ ρ', PI ⟨c, w, ρ.F, opnOf ρ, none, none, [], ptrs bs 0, gx⟩ ρ' (hq bs'.length (bs'.map MB.ab)) w' ∧ VR ρ' v z) a'.defers .returning w' := by
  refine leave_ok g2.hr g2.wf (g4.nil rfl) q1 fun w2 g => ?_
  have g5 := g2.good g (ArrKeep.leave q1)
  obtain ⟨z, z1, z2⟩ := results_ok k g5.hr g3 q2
  rw [q3] at z2
  exact ⟨z, z1, _, g5.canon hg0 q4 lm (low_ptrs (by have := bleT le; omega)) rfl, low_ok v lv z2⟩
 rcases hx with rfl | rfl
 ·exact hfin
 ·exact hfin
theorem Go.retM {X : Cx} {sz : Nat} {rd : Option Nat} {k : List It} {L : List (Nat × AV)} {h : Heap} {m : List Nat} {c : Ctx} {res : List ResultVar} {vs : List AV} {v : AV} {bs' : List MB} {h' : Heap} (hl : leave h m = some h') (hr : resL L res = some vs) (hv : one vs = v) (hb : MbsAt h' bs' 0) (hn : Nat.ble bs'.length h'.nxt = true) : Go X sz rd (.code .ret :: k) L h m (FinM c res v bs') :=
 Go.ret fun e he => ⟨.inr rfl, h', vs, hl, resL_ok he hr, hv, hb, hn⟩
theorem Go.endM {X : Cx} {sz : Nat} {rd : Option Nat} {L : List (Nat × AV)} {h : Heap} {m : List Nat} {c : Ctx} {res : List ResultVar} {vs : List AV} {v : AV} {bs' : List MB} {h' : Heap} (hl : leave h m = some h') (hr : resL L res = some vs) (hv : one vs = v) (hb : MbsAt h' bs' 0) (hn : Nat.ble bs'.length h'.nxt = true) : Go X sz rd [] L h m (FinM c res v bs') :=
 Go.nil fun e he => ⟨.inl rfl, h', vs, hl, resL_ok he hr, hv, hb, hn⟩
/-! ## at a call -/
def dropO (t : Nat) : List (Nat × AV) → Option (List (Nat × AV))
 | [] => some []
 | (s, v) :: r => (match dropO t r with | some r' => (match Nat.beq t s with | true => some r' | false => some ((s, v) :: r')) | none => none)
def cleanO (A R : List Nat) : List (Nat × AV) → Option (List (Nat × AV))
 | [] => some []
 | (t, v) :: r => (match cleanO A R r with
  | some r' => (match dropO t r' with
   | some r'' => (match okB A R v with | true => some ((t, v) :: r'') | false => some r'')
   | none => none)
  | none => none)
theorem drop_lk {t : Nat} : ∀ {L L' : List (Nat × AV)}, dropO t L = some L' → lkO L' t = none ∧ ∀ s, s ≠ t → lkO L' s = lkO L s
 | [], L', h => by cases h; exact ⟨rfl, fun _ _ => rfl⟩
 | (s, v) :: r, L', h => by
  simp only [dropO] at h
  split at h
  ·rename_i r' hr
   obtain ⟨i1, i2⟩ := drop_lk hr
   split at h
   ·rename_i e
    cases h
    have e := beqT e
    subst e
    refine ⟨i1, fun s hs => ?_⟩
    rw [i2 s hs]
    conv => rhs; unfold lkO
    rw [beqF hs]
   ·rename_i e
    cases h
    have e := beqN e
    constructor
    ·unfold lkO; rw [beqF e]; exact i1
    ·intro u hu
     unfold lkO
     rw [i2 u hu]
  ·cases h
theorem clean_lk {A R : List Nat} : ∀ {L L' : List (Nat × AV)}, cleanO A R L = some L' → ∀ t v, lkO L' t = some v → lkO L t = some v ∧ okB A R v = true
 | [], L', h, t, v, e => by cases h; cases e
 | (s, u) :: r, L', h, t, v, e => by
  simp only [cleanO] at h
  split at h
  ·rename_i r' hr
   split at h
   ·rename_i r'' hd
    obtain ⟨d1, d2⟩ := drop_lk hd
    have ih := clean_lk hr
    have key : lkO r'' t = some v → lkO ((s, u) :: r) t = some v ∧ okB A R v = true := fun q => by
     have hts : t ≠ s := fun x => by subst x; rw [d1] at q; cases q
     rw [d2 t hts] at q
     unfold lkO
     rw [beqF hts]
     exact ih t v q
    split at h
    ·rename_i hu
     cases h
     unfold lkO at e
     split at e
     ·rename_i ht
      cases e
      unfold lkO
      rw [ht]
      exact ⟨rfl, hu⟩
     ·exact key e
    ·cases h; exact key e
   ·cases h
  ·cases h
def wkA (h : Heap) : List AV → List AV → Prop
 | [], [] => True
 | a :: l, b :: m => (a = b ∨ False) ∧ wkA h l m
 | _, _ => False
theorem wk_ok {X : Cx} {ρ : Map} {h : Heap} {w : World} (p : PI X ρ h w) : ∀ {l m : List AV} {L : List Value}, wkA h l m → VRs ρ l L → VRs ρ m L
 | [], [], L, _, h => h
 | [], _ :: _, L, h, _ => h.elim
 | _ :: _, [], L, h, _ => h.elim
 | a :: l, b :: m, L, ⟨h1, h2⟩, h => by
  simp only [VRs] at h ⊢
  obtain ⟨x, r, e1, e2, e3⟩ := h
  refine ⟨x, r, ?_, wk_ok p h2 e2, e3⟩
  rcases h1 with rfl | q
  ·exact e1
  ·exact q.elim
theorem evid_ok {X : Cx} {ρ : Map} {h : Heap} {w : World} (p : PI X ρ h w) {is : List Nat} {all : List MB} (hb : BlksAt h (sg is h.nxt) is all) (hlow : lowM all.length all = true) : ∀ {bs : List MB} {acc : List AV} {n : Nat}, (∀ j b, bs[j]? = some b → all[n + j]? = some b) → evidB acc bs n = true → (∀ a ∈ acc, ∃ x, VR (inMap ρ is h.nxt all.length) a x) → ∃ gx, VRs (inMap ρ is h.nxt all.length) (ptrs bs n) gx
 | [], acc, n, _, _, _ => ⟨[], by simp [ptrs, VRs]⟩
 | b :: bs, acc, n, hall, he, ha => by
  have hall' : ∀ j b, bs[j]? = some b → all[n + 1 + j]? = some b := fun j b e => by
   have := hall (j + 1) b (by simpa using e)
   rwa [show n + (j + 1) = n + 1 + j by omega] at this
  have h0 := hall 0 b rfl
  rw [Nat.add_zero] at h0
  cases b with
  | no => simp only [evidB] at he; simp only [ptrs]; exact evid_ok p hb hlow hall' he ha
  | arr t z k l => simp only [evidB] at he; simp only [ptrs]; exact evid_ok p hb hlow hall' he ha
  | row t cs =>
   simp only [evidB] at he
   split at he
   ·rename_i hp
    obtain ⟨o, ho⟩ := hasP_mem hp
    obtain ⟨x, hx⟩ := ha _ ho
    simp only [VR] at hx
    obtain ⟨B, N, c1, c2⟩ := hx
    obtain ⟨hn, c3⟩ := inMap_m c1
    obtain ⟨_, r, r1, r2, r3, r4, r5⟩ := hb.at_ (n := h.nxt) h0
    have hok : h.ok (sg is h.nxt n) := by unfold Heap.ok; rw [r1]; simp only []; rw [Heap.row_of r1, r4]; rfl
    have hr := p.hr.ok _ B N c3 hok
    rw [r1] at hr
    have hr : RowOk ρ r B N w := hr
    rw [rens_length] at r3
    obtain ⟨gx, hgx⟩ := evid_ok p hb hlow hall' he (fun a hm => by
     rcases List.mem_append.1 hm with hm | hm
     ·obtain ⟨j, hj, rfl⟩ := List.getElem_of_mem hm
      obtain ⟨v, v1, v2⟩ := hr.2.2.2 j (by omega)
      have e5 : r.get j = ren (sg is h.nxt) (cs.getD j .bad) := by
       rw [← rens_get, ← r5, Row.read_get r r.n j (by omega)]
      rw [e5] at v2
      refine ⟨v, ?_⟩
      have hlw : lowsB all.length cs = true := lowM_at hlow h0
      have := low_ok _ (lows_at hlw hj) ((vr_ren _ _).1 v2)
      rwa [List.getD_eq_getElem?_getD, List.getElem?_eq_getElem hj] at this
     ·exact ha a hm)
    simp only [ptrs]
    refine ⟨.pointer (some ⟨B, 0, none⟩) :: gx, ?_⟩
    simp only [VRs, VR]
    exact ⟨_, _, ⟨B, N, c1, rfl⟩, hgx, rfl⟩
   ·cases he
theorem vrs_ex {ρ : Map} {l : List AV} {L : List Value} (h : VRs ρ l L) : ∀ a ∈ l, ∃ x, VR ρ a x := fun a ha => by
 obtain ⟨i, hi⟩ := List.getElem?_of_mem ha
 have hl := VRs.iff.1 h
 have hlt : i < L.length := by rw [← hl.1]; exact (List.getElem?_eq_some_iff.1 hi).1
 exact ⟨_, hl.2 i _ _ hi (List.getElem?_eq_getElem hlt)⟩
def nins2 (A R : List Nat) : List Nat → Bool
 | [] => true
 | d :: m => (match nin2 A R d with | true => nins2 A R m | false => false)
section
variable {X : Cx} {tb : List (Nat × TE)} (E : Env X.c tb) {sz : Nat} {rd : Option Nat} {all : Array Oper} {o : Oper} {rest : List Oper} {k : List It} {L : List (Nat × AV)} {h : Heap} {m : List Nat} {Q : Post}
include E
theorem Ops.callM (is : List Nat) (N : Nat) {cl : Call} {f : Operand} {g : FuncId} {first cap vs args : List AV} {v v' : AV} {bs bs' : List MB} {ab : List AB} {L' : List (Nat × AV)} (hw : Want all L o true) (ho : o.op = .call cl) (hc : cl.callee = .value f) (hfv : evL L f = some (.fn (.func g) first cap))
  (hv : evsL L cl.args.toList = some vs) (hk : KM X.c g bs args v bs') (hN : h.nxt = N) (hwk : wkA h (first ++ vs ++ cap) (rens (sg is N) args)) (hap : apart N is = true) (hb : BlksAt h (sg is N) is bs) (hI : HOk is (arrI is bs) (rowI is bs) h) (hL : cleanO (arrI is bs) (rowI is bs) L = some L') (hm : nins2 (arrI is bs) (rowI is bs) m = true)
  (hrd : (match rd with | some l => nin2 (arrI is bs) (rowI is bs) l | none => true) = true) (hv' : ren (sg is N) v = v') (hab : bs'.map (fun b => (b.ren (sg is N)).ab) = ab) {d : Nat} (hd : o.dst = some d) (hs : Nat.ble (d + 1) sz = true) (n : Ops X sz rd all rest k ((d, v') :: L') (mixN N h is ab) m Q)
  (hG : oksB (arrI is bs) (rowI is bs) X.gv = true := by rfl) (hgz : X.g = none ∨ (nin is 0 && nin is 1 && Nat.ble 2 N) = true := by first | exact .inl rfl | exact .inr rfl) : Ops X sz rd all (o :: rest) k L h m Q := ⟨fun e0 he => by
 subst hN; subst hv'; subst hab
 refine TriOps.cons (hw e0 he) (K := fun s' => RunK X sz rd k Q .normal s') ?_
 intro ro ρ w a next Q' h1 p h3 h4 h5
 refine ⟨fun _ _ => trivial, ?_⟩
 rw [show (wideR ro).round = ro from rfl, Oper.semAt_eq ro a.eval o (by rw [ho]; intro d q; cases q)]
 have hfv' := ev_ok h3 f
 rw [he.ev hfv] at hfv'
 simp only [VR, FR] at hfv'
 obtain ⟨f', F, C, e1, e2, e3, e4⟩ := hfv'
 subst e1
 have hargs := evs_ok h3 cl.args.toList
 rw [he.evs hv] at hargs
 have hA := wk_ok p hwk (VRs.append (VRs.append e2 hargs) e3)
 have hA2 : VRs (inMap ρ is h.nxt bs.length) args _ := lows_ok args hk.la ((vrs_ren _ _).1 hA)
 obtain ⟨gx, hgx⟩ := evid_ok p hb hk.lo (bs := bs) (acc := args) (n := 0) (fun j b e => by rw [Nat.zero_add]; exact e) hk.ev (vrs_ex hA2)
 obtain ⟨nx, w1, q1, q2⟩ := hk.run (inMap ρ is h.nxt bs.length) w _ gx (p.enter E.g hap hb hk.lo hgx) hA2
 have hrun : (execOp a.eval o).run X.c.P w = .ok nx w1 := by
  rw [← q1]
  simp only [execOp, ho, resolve, hc, e4, Deferred.ofValue, Sem.run_bind, Sem.run_pure, Result.andThen_ok, invoke]
  congr 2
  apply Array.ext'; simp
 rw [hrun]
 refine uponIn_of_next q2 fun z w' ⟨ρ', pi', hz⟩ => ?_
 obtain ⟨pp, hs'⟩ := p.back E.g hap hb hgx hI hG hgz hk.le hk.lm pi'
 obtain ⟨e', he', er'⟩ := known_env (σ := outMap ρ ρ' is h.nxt bs'.length) (L := L') (tm := a.tmps) (sz := sz) h3.1 (fun t u q => by
  obtain ⟨c1, c2⟩ := clean_lk hL t u q
  have := h3.2 t
  rw [he t u c1] at this
  exact okB_ok hs' u c2 this)
 refine h5 (ren (sg is h.nxt) v) ⟨e', _, m⟩ z w' _ ⟨e'.set und d _, by rw [hd]; exact setD_some hs, n.run _ (he'.set d _)⟩ ?_ pp er' ?_ (outMap_ren hap hk.lv hz)
 ·cases rd with
  | none => exact h1
  | some r =>
   obtain ⟨B, N, x1, x2⟩ := h1
   exact ⟨B, N, hs'.m r _ (nin2_f hrd).1 (nin2_f hrd).2 x1, x2⟩
 ·have hmr : ∀ {m : List Nat} {D : List Deferred}, nins2 (arrI is bs) (rowI is bs) m = true → MR ρ m D → MR (outMap ρ ρ' is h.nxt bs'.length) m D := by
   intro m
   induction m with
   | nil => intro D _ q; exact q
   | cons d m ih =>
    intro D hh q
    simp only [nins2] at hh
    split at hh
    ·rename_i hd
     obtain ⟨B, N, r, x1, x2, x3⟩ := q
     exact ⟨B, N, r, hs'.m d _ (nin2_f hd).1 (nin2_f hd).2 x1, ih hh x2, x3⟩
    ·cases hh
  obtain ⟨D1, h5, h6⟩ := h4
  exact ⟨D1, hmr hm h5, h6⟩⟩
end
theorem Chg.tokNew {X : Cx} {sz : Nat} {rd : Option Nat} {L : List (Nat × AV)} {h : Heap} {m : List Nat} (n0 ty z : Nat) (hn0 : h.nxt = n0) (hz : X.g = none ∨ Nat.ble 1 n0 = true := by first | exact .inl rfl | exact .inr rfl) : Chg X sz rd L h L (newAt n0 h (.arr ty z 0 [])) m := fun ro ρ w e a h1 p h3 he h4 => by
 rw [← new_at hn0]
 subst hn0
 obtain ⟨ρ', p', hs, _, _, _⟩ := p.tokV ty z (v0 := .slice none 0 0) rfl hz
 exact ⟨ρ', e, h1.mono hs, p', h3.mono hs, he, h4.mono hs⟩
end Go.Px
end
section
namespace Go.Px
def GhW (X : Cx) (ρ : Map) (h : Heap) (w : World) (S : Nat → Prop) (Fo : Nat → List Value) : Prop := ∀ G, X.g = some G → ∀ t z n l, h.get 0 = .arr t z n l → G.J z S Fo w ∧ (∀ b, S b → b < w.heap.size) ∧ (∀ i B N, ρ i = some (B, N) → h.ok i → ¬ S B ∧ G.n0 ≤ B) ∧ ((∀ b, S b ∨ b < G.n0 → ρ.F b = Fo b) ∧ ∀ (b i : Nat) (x : Value), (Fo b)[i]? = some x → (ρ.F b)[i]? = some x) ∧ G.n0 ≤ w.heap.size ∧ S G.blk ∧ (∃ N, ρ 1 = some (G.blk, N)) ∧ (∀ b, S b → ¬ X.shut b) ∧ ∃ a, ρ.V 0 0 = some (.slice a 0 0)
theorem GhP.wit {X : Cx} {ρ : Map} {h : Heap} {w : World} (p : GhP X ρ h w) : ∃ S Fo, GhW X ρ h w S Fo ∧ (∀ b, S b → b < w.heap.size) ∧ ∀ b, S b → ¬ X.shut b := by
 cases hG : X.g with
 | none => exact ⟨fun _ => False, fun _ => [], (fun G e => by rw [hG] at e; cases e), fun _ q => q.elim, fun _ q => q.elim⟩
 | some G =>
  by_cases ha : ∃ t z n l, h.get 0 = .arr t z n l
  ·obtain ⟨t, z, n, l, e⟩ := ha
   obtain ⟨S, Fo, s⟩ := p G hG t z n l e
   refine ⟨S, Fo, fun G' e1 t' z' n' l' e2 => ?_, s.2.1, s.2.2.2.2.2.2.2.1⟩
   rw [hG] at e1; cases e1
   rw [e] at e2; cases e2
   exact s
  ·exact ⟨fun _ => False, fun _ => [], (fun G' e1 t z n l e2 => absurd ⟨t, z, n, l, e2⟩ ha), fun _ q => q.elim, fun _ q => q.elim⟩
theorem GhW.gh {X : Cx} {ρ : Map} {h : Heap} {w : World} {S : Nat → Prop} {Fo : Nat → List Value} (p : GhW X ρ h w S Fo) : GhP X ρ h w := fun G hG t z n l e => ⟨S, Fo, p G hG t z n l e⟩
theorem fo_nil {F F' : Nat → List Value} (h : ∀ (b i : Nat) (x : Value), (F b)[i]? = some x → (F' b)[i]? = some x) {b : Nat} (e : F' b = []) : F b = [] := by
 cases hl : F b with
 | nil => rfl
 | cons x r =>
  have := h b 0 x (by rw [hl]; rfl)
  rw [e] at this; simp at this
theorem PI.world {X : Cx} {ρ : Map} {h : Heap} {w w' : World} (p : PI X ρ h w) (hs : Same w w') {U : Nat → Prop} (hu : ∀ b, b < w.heap.size → U b → w'.heap[b]? = w.heap[b]?) (u1 : ∀ i B N, ρ i = some (B, N) → U B) (u2 : ∀ b, ρ.F b ≠ [] → U b) (u3 : ∀ b, b < X.w0.heap.size → U b) {S : Nat → Prop} {Fo : Nat → List Value} (g : GhW X ρ h w S Fo) (u4 : ∀ b, S b → U b) (u5 : ∀ G, X.g = some G → ∀ b, b < G.n0 → U b) : PI X ρ h w' ∧ GhW X ρ h w' S Fo := by
 have hgw : GhW X ρ h w' S Fo := fun G hG t z n l e => by
  obtain ⟨s1, s2, s3, s4, s5, s6, s7, s8⟩ := g G hG t z n l e
  refine ⟨G.stab z S Fo w w' s1 hs (fun b hb q => hu b hb (q.elim (u4 b) fun q => q.elim (u5 G hG b) fun q => u2 b fun e => q (fo_nil s4.2 e))), fun b q => Nat.lt_of_lt_of_le (s2 b q) hs.size, s3, s4, Nat.le_trans s5 hs.size, s6, s7, s8⟩
 refine ⟨⟨⟨fun i B N e => Nat.lt_of_lt_of_le (p.hr.lt i B N e) hs.size, fun i B N e q => ?_, p.hr.inj, p.hr.gl, fun B j x e => ?_, p.hr.sep, p.hr.av⟩, p.wf, p.fr, p.vf, p.vu, ⟨p.ext.1.trans hs, fun b hb => ?_⟩, p.mine, p.sub, p.old, p.keep, hgw.gh⟩, hgw⟩
 ·exact (p.hr.ok i B N e q).block (hu B (p.hr.lt i B N e) (u1 i B N e))
 ·have hne : ρ.F B ≠ [] := fun q => by rw [q] at e; simp at e
  have := p.hr.fz B j x e
  unfold World.cell? at this ⊢
  have hlt := p.hr.F_lt hne
  simp only [hu B hlt (u2 B hne)]
  exact this
 ·rw [hu b (Nat.lt_of_lt_of_le hb.1 p.ext.1.size) (u3 b hb.1)]; exact p.ext.2 b hb
theorem PI.base {X : Cx} {ρ : Map} {h : Heap} {w : World} (p : PI X ρ h w) {S : Nat → Prop} {Fo : Nat → List Value} (g : GhW X ρ h w S Fo) (ro : Option Nat) (hid : List Nat) (gx : List Value) (gv : List AV) (hk : VRs ρ gv gx) {F : Nat → List Value} (hF : ∀ (b j : Nat) (x : Value), (ρ.F b)[j]? = some x → (F b)[j]? = some x) (hz : FzW F w) (hsep : ∀ i B N, ρ i = some (B, N) → F B = ρ.F B) (hS : ∀ b, S b → F b = ρ.F b) (hn : ∀ G, X.g = some G → ∀ b, b < G.n0 → F b = ρ.F b) :
  PI ⟨X.c, w, F, fun b => (∃ i N, ρ i = some (b, N)) ∨ S b, X.g, ro, hid, gv, gx⟩ ⟨ρ.m, F, ρ.V⟩ h w := by
 have hs : Sub ρ ⟨ρ.m, F, ρ.V⟩ := ⟨fun _ _ e => e, hF, fun _ _ _ e => e⟩
 refine ⟨⟨p.hr.lt, fun i B N e q => (p.hr.ok i B N e q).mono hs, p.hr.inj, p.hr.gl, hz, fun i B N e q => ?_, fun i t z n l q => (p.hr.av i t z n l q).mono hs⟩, p.wf, p.fr, p.vf, p.vu, ⟨Same.refl w, fun _ _ => rfl⟩, fun i B N e hsh => hsh.2 (.inl ⟨i, N, e⟩), fun _ _ _ e => e, fun _ _ => rfl, hk.mono hs, fun G hG t z n l e => ?_⟩
 ·rcases p.hr.sep i B N e q with a | ⟨r, a⟩
  ·exact .inl ((hsep i B N e).trans a)
  ·exact .inr ⟨r, a⟩
 ·obtain ⟨s1, s2, s3, s4, s5, s6, s7, s8⟩ := g G hG t z n l e
  exact ⟨S, Fo, s1, s2, s3, ⟨fun b q => (q.elim (hS b) (hn G hG b)).trans (s4.1 b q), fun b i x e => hF b i x (s4.2 b i x e)⟩, s5, s6, s7, (fun b q hsh => hsh.2 (.inr q)), s8.2⟩
theorem PI.rebase {X : Cx} {ρ : Map} {h : Heap} {w : World} (p : PI X ρ h w) {S : Nat → Prop} (hS : ∀ b, S b → ¬ X.shut b) {ro : Option Nat} {hid : List Nat} {gx : List Value} {gv : List AV} {F : Nat → List Value} (hF : ∀ (b j : Nat) (x : Value), (ρ.F b)[j]? = some x → (F b)[j]? = some x) (hold : ∀ b, X.shut b → F b = ρ.F b) {ρ' : Map} {h' : Heap} {w' : World}
  (q : PI ⟨X.c, w, F, fun b => (∃ i N, ρ i = some (b, N)) ∨ S b, X.g, ro, hid, gv, gx⟩ ρ' h' w') (hk : VRs ρ' X.gv X.gx) : PI X ρ' h' w' := by
 have key : ∀ b, X.shut b → Cx.shut ⟨X.c, w, F, fun b => (∃ i N, ρ i = some (b, N)) ∨ S b, X.g, ro, hid, gv, gx⟩ b := fun b hb =>
  ⟨Nat.lt_of_lt_of_le hb.1 p.ext.1.size, fun a => a.elim (fun ⟨i, N, e⟩ => p.mine i b N e hb) (fun a => hS b a hb)⟩
 refine ⟨q.hr, q.wf, q.fr, q.vf, q.vu, ⟨p.ext.1.trans q.ext.1, fun b hb => (q.ext.2 b (key b hb)).trans (p.ext.2 b hb)⟩, fun i B N e hb => q.mine i B N e (key B hb), fun b j x e => q.sub b j x (hF b j x (p.sub b j x e)), fun b hb => ((q.old b (key b hb)).trans (hold b hb)).trans (p.old b hb), hk, fun G hG t z n l e => ?_⟩
 obtain ⟨S', Fo, s1, s2, s3, s4, s5, s6, s7, s8⟩ := q.gh G hG t z n l e
 exact ⟨S', Fo, s1, s2, s3, s4, s5, s6, s7, (fun b a hb => s8.1 b a (key b hb)), s8.2⟩
def ChgE (X : Cx) (h h' : Heap) : Prop := ∀ ρ w, PI X ρ h w → ∃ ρ', PI X ρ' h' w
theorem ChgE.of {X : Cx} {h h' : Heap} (H : Chg X 0 none [] h [] h' []) : ChgE X h h' := fun ρ w p => by
 obtain ⟨ρ', e', _, p', _⟩ := H X.ro ρ w .leaf ⟨#[], X.hid.map colD⟩ rfl p ⟨rfl, fun t => by
  rw [get_leaf]
  have : (#[] : Array Value).getD t undef = undef := by simp
  rw [this]; exact und_ok ρ⟩ (fun t v e => by cases e) ⟨[], rfl, rfl⟩
 exact ⟨ρ', p'⟩
theorem ChgE.cut {X : Cx} {h : Heap} {N : Nat} (bs : List AB) (hN : bs.length = N) (hg : ∀ i r, X.c.g0.get i ≠ .gl r) (hn : Nat.ble N h.nxt = true) (hb : getsP h bs 0) (hbl : lowsP N bs) (hG : lowsB N X.gv = true := by rfl) (hz : X.g = none ∨ Nat.ble 2 N = true := by first | exact .inl rfl | exact .inr rfl) : ChgE X h (hq N bs) := by
 subst hN
 exact ChgE.of (Chg.cut bs hg trivial rfl hn hb hbl rfl rfl hG hz)
structure KIt (c : Ctx) (g : FuncId) (cap : List AV) (items : List (List AV)) : Prop where
 fn : ∃ fn, c.P.funcs[g]? = some fn ∧ fn.body.isSome = true
 run : ∀ (G : Gho c.P) (w : World) (C : List Value) (S : Nat → Prop) (F : Nat → List Value), G.items = items → G.n0 = w.heap.size → FzW F w → VRs (fzm F) cap C → S G.blk → G.J 0 S F w → (∀ b, S b → b < w.heap.size) →
  ∃ nx w1, (callFunc g (Value.func (.yield G.blk) #[] #[] :: C).toArray).run c.P w = .ok nx w1 ∧ NextOk c.P (fun z w' => Same w w' ∧ (∀ b, b < w.heap.size → ¬ S b → w'.heap[b]? = w.heap[b]?) ∧
   ∃ k S' F', (k = items.length ∨ k = items.length + 1) ∧ G.J k S' F' w') nx w1
def FinY (c : Ctx) (res : List ResultVar) (N : Nat) : Post := fun x s => (x = .normal ∨ x = .ret) ∧ ∃ h' vs, leave s.h s.m = some h' ∧ resA c h' s.e res = some vs ∧ ∃ t z n l, h'.get 0 = .arr t z n l ∧ (z = N ∨ z = N + 1)
theorem Go.retY {X : Cx} {sz : Nat} {rd : Option Nat} {k : List It} {L : List (Nat × AV)} {h : Heap} {m : List Nat} {c : Ctx} {res : List ResultVar} {vs : List AV} {N t z n : Nat} {l : List AV} {h' : Heap} (hl : leave h m = some h') (hr : resL L res = some vs) (h0 : h'.get 0 = .arr t z n l) (ht : z = N ∨ z = N + 1) : Go X sz rd (.code .ret :: k) L h m (FinY c res N) :=
 Go.ret fun e he => ⟨.inr rfl, h', vs, hl, resL_ok he hr, t, z, n, l, h0, ht⟩
theorem Go.endY {X : Cx} {sz : Nat} {rd : Option Nat} {L : List (Nat × AV)} {h : Heap} {m : List Nat} {c : Ctx} {res : List ResultVar} {vs : List AV} {N t z n : Nat} {l : List AV} {h' : Heap} (hl : leave h m = some h') (hr : resL L res = some vs) (h0 : h'.get 0 = .arr t z n l) (ht : z = N ∨ z = N + 1) : Go X sz rd [] L h m (FinY c res N) :=
 Go.nil fun e he => ⟨.inl rfl, h', vs, hl, resL_ok he hr, t, z, n, l, h0, ht⟩
theorem KIt.of {c : Ctx} (k : CtxOk c) (hg0 : ∀ i r, c.g0.get i ≠ .gl r) {f : FuncId} {fn : Func} {body : Code} (hf : c.P.funcs[f]? = some fn) (hb : fn.body = some body) {cap : List AV} {items : List (List AV)} (hlen : Nat.ble (cap.length + 1) fn.ntmps = true) 
  (H : ∀ w F opn (G : Gho c.P) gx, G.items = items → Go ⟨c, w, F, opn, some G, none, [], [], gx⟩ fn.ntmps none [.code body] (argsL (.fn (.yield 1) [] [] :: cap) 0) (hq 2 [.arr 0 0 0 [], .none]) [] (FinY c fn.results.toList items.length)) : KIt c f cap items := by
 refine ⟨⟨fn, hf, by rw [hb]; rfl⟩, fun G w C S F hit hn0 hfz hC hblk hJ hS => ?_⟩
 have hnm : fn.name ≠ "runtime.NumGoroutine" := by simpa using k.names f fn hf
 refine ⟨.enter f (Value.func (.yield G.blk) #[] #[] :: C).toArray, w, by simp [callFunc, hf, hnm, hb, Sem.run], ?_⟩
 refine callsIn_of_wp_marks hf hb trivial ?_
 let ρ : Map := ⟨fun i => if i = 1 then some (G.blk, 0) else none, F, fun i n => if i = 0 ∧ n = 0 then some (.slice none 0 0) else none⟩
 have r1 : ρ 1 = some (G.blk, 0) := rfl
 have r2 : ∀ {i B N}, ρ i = some (B, N) → i = 1 ∧ B = G.blk := fun {i B N} e => by
  by_cases hi : i = 1
  ·subst hi; rw [r1] at e; cases e; exact ⟨rfl, rfl⟩
  ·have : ρ i = none := if_neg hi
   rw [this] at e; cases e
 have g0 : (hq 2 [.arr 0 0 0 [], .none]).get 0 = .arr 0 0 0 [] := rfl
 have gN : ∀ i, i ≠ 0 → (hq 2 [.arr 0 0 0 [], .none]).get i = .none := fun i hi => by
  rw [hq_get]
  match i, hi with
  | 1, _ => rfl
  | i + 2, _ => simp
 have nok : ∀ {i B N}, ρ i = some (B, N) → ¬ (hq 2 [.arr 0 0 0 [], .none]).ok i := fun {i B N} e o => by
  obtain ⟨rfl, _⟩ := r2 e
  unfold Heap.ok at o; rw [gN 1 (by decide)] at o; exact o
 have hA : VRs ρ (.fn (.yield 1) [] [] :: cap) (Value.func (.yield G.blk) #[] #[] :: C) := by
  simp only [VRs]
  refine ⟨_, _, ?_, VRs.mono (ρ := fzm F) (σ := ρ) ⟨fun _ _ e => (by cases e), fun _ _ _ e => e, fun _ _ _ e => (by cases e)⟩ cap hC, rfl⟩
  simp only [VR, FR, VRs]
  exact ⟨_, [], [], ⟨_, _, r1, rfl⟩, rfl, rfl, rfl⟩
 have hpi : PI ⟨c, w, F, S, some G, none, [], [], []⟩ ρ (hq 2 [.arr 0 0 0 [], .none]) w := by
  refine ⟨⟨fun i B N e => ?_, fun i B N e q => absurd q (nok e), fun i j B N M hij e1 e2 k1 k2 => absurd k1 (nok e1), fun i r e => ?_, hfz, fun i B N e q => absurd q (nok e), fun i t z n l e => ?_⟩, ⟨fun i hi => gN i (by have hi : 2 ≤ i := hi; omega), fun i r q e => ?_, fun i r q t e => ?_, fun q _ => get_leaf none q⟩, ⟨fun i hi => if_neg (by have hi : 2 ≤ i := hi; omega), fun i r e => absurd e (hg0 i r)⟩, fun i hi n => if_neg (by have hi : 2 ≤ i := hi; omega), fun i t z n l e m hm => ?_, ⟨Same.refl w, fun _ _ => rfl⟩, fun i B N e hs => ?_, fun _ _ _ e => e, fun _ _ => rfl, (by simp only [VRs]), fun G' hG t z n l e => ?_⟩
  ·obtain ⟨_, rfl⟩ := r2 e; exact hS _ hblk
  ·by_cases hi : i = 0
   ·subst hi; rw [g0] at e; cases e
   ·rw [gN i hi] at e; cases e
  ·by_cases hi : i = 0
   ·subst hi; rw [g0] at e; cases e
    exact ⟨rfl, .inl ⟨rfl, _, rfl⟩⟩
   ·rw [gN i hi] at e; cases e
  ·by_cases hi : i = 0
   ·subst hi; rw [g0] at e; cases e
   ·rw [gN i hi] at e; cases e
  ·by_cases hi : i = 0
   ·subst hi; rw [g0] at e; cases e
   ·rw [gN i hi] at e; cases e
  ·by_cases hi : i = 0
   ·subst hi; rw [g0] at e; cases e
    exact if_neg (fun a => by omega)
   ·rw [gN i hi] at e; cases e
  ·obtain ⟨_, rfl⟩ := r2 e; exact hs.2 hblk
  ·cases hG
   rw [g0] at e; cases e
   exact ⟨S, F, hJ, hS, fun i B N e q => absurd q (nok e), ⟨fun _ _ => rfl, fun _ _ _ e => e⟩, by omega, hblk, ⟨0, r1⟩, (fun b q hs => hs.2 q), _, rfl⟩
 have h := (H w F S G [] hit).run (T.put und (.fn (.yield 1) [] [] :: cap) (env0 und fn.ntmps) 0) (argsL_has _ _ 0)
 have ht : Tri ⟨c, w, F, S, some G, none, [], [], []⟩ fn.ntmps none body ⟨T.put und (.fn (.yield 1) [] [] :: cap) (env0 und fn.ntmps) 0, hq 2 [.arr 0 0 0 [], .none], []⟩ (FinY c fn.results.toList items.length) := h
 refine ht none ρ w _ _ rfl hpi (args_er hA (bleT hlen)) ⟨[], rfl, rfl⟩ fun x s' a' w' ρ' ⟨hx, h', vs, q1, q2, t, z, n, l, q3, q4⟩ g1 g2 g3 g4 => ?_
 have hfin : LeavesInM Fence.wide 0 c.P fn a'.tmps (EndR fun z w' => Same w w' ∧ (∀ b, b < w.heap.size → ¬ S b → w'.heap[b]? = w.heap[b]?) ∧ ∃ k S' F', (k = items.length ∨ k = items.length + 1) ∧ G.J k S' F' w') a'.defers .returning w' := by
  refine leave_ok g2.hr g2.wf (g4.nil rfl) q1 fun w2 gg => ?_
  have g5 := g2.good gg (ArrKeep.leave q1)
  obtain ⟨z', z1, z2⟩ := results_ok k g5.hr g3 q2
  obtain ⟨S', F', s1, _⟩ := g5.gh G rfl t z n l q3
  exact ⟨z', z1, g5.ext.1, fun b hb hs => g5.ext.2 b ⟨hb, hs⟩, z, S', F', q4, s1⟩
 rcases hx with rfl | rfl
 ·exact hfin
 ·exact hfin
section
variable {X : Cx} {tb : List (Nat × TE)} (E : Env X.c tb) {sz : Nat} {rd : Option Nat} {all : Array Oper} {o : Oper} {rest : List Oper} {k : List It} {L : List (Nat × AV)} {h : Heap} {m : List Nat} {Q : Post}
include E
theorem Ops.yieldJ {G : Gho X.c.P} {d t z : Nat} {cl : Call} {f : Operand} {vs : List AV} (hw : Want all L o true) (ho : o.op = .call cl) (hc : cl.callee = .value f) (hfv : evL L f = some (.fn (.yield 1) [] [])) (hv : evsL L cl.args.toList = some vs) (hdt : datsB vs = true) (hX : X.g = some G) (h0 : h.get 0 = .arr t z 0 []) (hit : G.items[z]? = some vs) (hd : o.dst = some d) (hs : Nat.ble (d + 1) sz = true)
  (n1 : Ops X sz rd all rest k ((d, .bool true) :: L) (h.put 0 (.arr t (z + 1) 0 [])) m Q) (n2 : Ops X sz rd all rest k ((d, .bool false) :: L) (h.put 0 (.arr t (G.items.length + 1) 0 [])) m Q) : Ops X sz rd all (o :: rest) k L h m Q := ⟨fun e0 he => by
 have _ := E
 refine TriOps.cons (hw e0 he) (K := fun s' => RunK X sz rd k Q .normal s') ?_
 intro ro ρ w a next Q' h1 p h3 h4 h5
 refine ⟨fun _ _ => trivial, ?_⟩
 rw [show (wideR ro).round = ro from rfl, Oper.semAt_eq ro a.eval o (by rw [ho]; intro d q; cases q)]
 obtain ⟨S, Fo, s1, s2, s3, s4, s5, s6, ⟨N1, s7⟩, s8⟩ := p.gh G hX t z 0 [] h0
 have hfv' := ev_ok h3 f
 rw [he.ev hfv] at hfv'
 simp only [VR, VRs, FR] at hfv'
 obtain ⟨f', F, C, ⟨B, N, hB, rfl⟩, rfl, rfl, e4⟩ := hfv'
 rw [s7] at hB; cases hB
 have hargs := evs_ok h3 cl.args.toList
 rw [he.evs hv] at hargs
 obtain ⟨nx, w1, q1, q2⟩ := G.step z S w vs _ Fo ρ.F hit s1 s5 s2 s4.1 s4.2 p.hr.fz (dats_ok vs hdt hargs)
 have hrun : (execOp a.eval o).run X.c.P w = .ok nx w1 := by
  rw [← q1]
  simp only [execOp, ho, resolve, hc, e4, Deferred.ofValue, Sem.run_bind, Sem.run_pure, Result.andThen_ok, invoke]
  congr 2
  apply Array.ext'; simp
 rw [hrun]
 refine uponIn_of_next q2 fun zz w' ⟨r1, r2, r3, S', r4, r5, r6⟩ => ?_
 have hok0 : ∀ {b : AB}, h.get 0 = b → b.isArr = true → h.ok 0 := fun {b} e hb => by unfold Heap.ok; rw [e]; cases b <;> first | trivial | cases hb
 have ok0 := hok0 h0 rfl
 have fin : ∀ (T : Nat) (bb : Bool), zz = .bool bb → G.J T S' ρ.F w' → Ops X sz rd all rest k ((d, .bool bb) :: L) (h.put 0 (.arr t T 0 [])) m Q → next (a.put o.dst zz) w' := fun T bb hzz hJ hops => by
  have hg : ∀ j, j ≠ 0 → (h.put 0 (.arr t T 0 [])).get j = h.get j := fun j q => by rw [Heap.get_put, if_neg q]
  have hn : (h.put 0 (.arr t T 0 [])).get 0 = .arr t T 0 [] := by rw [Heap.get_put, if_pos rfl]
  have hoo : ∀ j, j ≠ 0 → ((h.put 0 (.arr t T 0 [])).ok j ↔ h.ok j) := fun j q => Heap.ok_same (hg j q) (fun _ _ _ _ => rfl)
  have hokall : ∀ j, (h.put 0 (.arr t T 0 [])).ok j → h.ok j := fun j q => by
   by_cases hj : j = 0
   ·subst hj; exact ok0
   ·exact (hoo j hj).1 q
  have stay : ∀ {i B N}, ρ i = some (B, N) → h.ok i → w'.heap[B]? = w.heap[B]? := fun {i B N} e o => r2 B (p.hr.lt i B N e) (s3 i B N e o).1
  have hpi : PI X ρ (h.put 0 (.arr t T 0 [])) w' := by
   refine ⟨⟨fun i B N e => Nat.lt_of_lt_of_le (p.hr.lt i B N e) r1.size, fun i B N e q => ?_, fun i j B N M hij e1 e2 k1 k2 => ?_, fun i r e => ?_, r3, fun i B N e q => ?_, fun i t' z' n' l' e => ?_⟩, ⟨fun i hi => ?_, fun i r q e1 e2 => ?_, fun i r q t' e1 e2 e3 => ?_, fun q hq => p.wf.tipr q hq⟩, ⟨fun i hi => p.fr.1 i hi, fun i r q => ?_⟩, fun i hi n => p.vf i hi n, fun i t' z' n' l' e m' hm' => ?_, ⟨p.ext.1.trans r1, fun b hb => ?_⟩, p.mine, p.sub, p.old, p.keep, fun G' hG t' z' n' l' e => ?_⟩
   ·have hb := (p.hr.ok i B N e (hokall i q)).block (stay e (hokall i q))
    by_cases hi : i = 0
    ·subst hi; rw [hn]; rw [h0] at hb
     have hb : RowOk ρ.d ⟨t, 0 * z, .leaf, [], none⟩ B N w' := hb
     show RowOk ρ.d ⟨t, 0 * T, .leaf, [], none⟩ B N w'
     rw [Nat.zero_mul] at hb ⊢; exact hb
    ·rw [hg i hi]; exact hb
   ·obtain ⟨r, s, qq, x, y, u⟩ := p.hr.inj i j B N M hij e1 e2 (hokall i k1) (hokall j k2)
    have hi : i ≠ 0 := fun e => by subst e; rw [h0] at x; cases x
    have hj : j ≠ 0 := fun e => by subst e; rw [h0] at y; cases y
    exact ⟨r, s, qq, by rw [hg i hi]; exact x, by rw [hg j hj]; exact y, u⟩
   ·by_cases hi : i = 0
    ·subst hi; rw [hn] at e; cases e
    ·rw [hg i hi] at e; exact p.hr.gl i r e
   ·rcases p.hr.sep i B N e (hokall i q) with x | ⟨r, x⟩
    ·exact .inl x
    ·exact .inr ⟨r, by rw [hg i (fun e => by subst e; rw [h0] at x; cases x)]; exact x⟩
   ·by_cases hi : i = 0
    ·subst hi; rw [hn] at e; cases e; exact ⟨by simp, .inl ⟨rfl, s8.2⟩⟩
    ·rw [hg i hi] at e; exact p.hr.av i t' z' n' l' e
   ·have hi' : h.nxt ≤ i := hi
    by_cases hi0 : i = 0
    ·subst hi0; rw [p.wf.fresh 0 hi'] at h0; cases h0
    ·rw [hg i hi0]; exact p.wf.fresh i hi'
   ·by_cases hi : i = 0
    ·subst hi; rw [hn] at e1; cases e1
    ·rw [hg i hi] at e1; exact p.wf.root i r q e1 e2
   ·by_cases hi : i = 0
    ·subst hi; rw [hn] at e1; cases e1
    ·rw [hg i hi] at e1
     obtain ⟨s, x, y⟩ := p.wf.tip i r q t' e1 e2 e3
     exact ⟨s, by rw [hg t' (fun e => by subst e; rw [h0] at x; cases x)]; exact x, y⟩
   ·have := p.fr.2 i r q
    rw [hg i (fun e => by subst e; rw [h0] at this; cases this)]; exact this
   ·by_cases hi : i = 0
    ·subst hi; rw [hn] at e; cases e; exact p.vu 0 t z 0 [] h0 m' hm'
    ·rw [hg i hi] at e; exact p.vu i t' z' n' l' e m' hm'
   ·rw [r2 b (Nat.lt_of_lt_of_le hb.1 p.ext.1.size) (fun q => s8.1 b q hb)]; exact p.ext.2 b hb
   ·rw [hX] at hG; cases hG
    rw [hn] at e; cases e
    refine ⟨S', ρ.F, hJ, fun b q => (r5 b q).1, fun i B N e q => ?_, ⟨fun b q => rfl, fun _ _ _ e => e⟩, Nat.le_trans s5 r1.size, r4 _ s6, ⟨N1, s7⟩, fun b q hb => ?_, s8.2⟩
    ·obtain ⟨a1, a2⟩ := s3 i B N e (hokall i q)
     refine ⟨fun q' => ?_, a2⟩
     rcases (r5 B q').2 with x | x
     ·exact a1 x
     ·have := p.hr.lt i B N e; omega
    ·rcases (r5 b q).2 with x | x
     ·exact s8.1 b x hb
     ·have := Nat.lt_of_lt_of_le hb.1 p.ext.1.size; omega
  subst hzz
  exact h5 (.bool bb) ⟨e0, _, m⟩ (.bool bb) w' ρ ⟨e0.set und d (.bool bb), by rw [hd]; exact setD_some hs, hops.run _ (he.set d _)⟩ h1 hpi h3 h4 (by simp only [VR])
 rcases r6 with ⟨hz, hJ⟩ | ⟨hz, hJ⟩
 ·exact fin (z + 1) true hz hJ n1
 ·exact fin _ false hz hJ n2⟩
end
end Go.Px
end
section
namespace Go.Px
theorem PI.leg {X : Cx} {ρ : Map} {h : Heap} {w : World} (p : PI X ρ h w) {S : Nat → Prop} (hS : ∀ b, S b → ¬ X.shut b) {ro : Option Nat} {hid : List Nat} {F : Nat → List Value} (hF : ∀ (b j : Nat) (x : Value), (ρ.F b)[j]? = some x → (F b)[j]? = some x) (hold : ∀ b, X.shut b → F b = ρ.F b) {ρ' : Map} {h' : Heap} {w' : World}
  (q : PI ⟨X.c, w, F, fun b => (∃ i N, ρ i = some (b, N)) ∨ S b, X.g, ro, hid, X.gv, X.gx⟩ ρ' h' w') :
  PI X ρ' h' w' ∧ Same w w' ∧ (∀ b, b < w.heap.size → ¬ ((∃ i N, ρ i = some (b, N)) ∨ S b) → w'.heap[b]? = w.heap[b]? ∧ ρ'.F b = F b ∧ ∀ i N, ρ' i ≠ some (b, N)) ∧ (∀ (b j : Nat) (x : Value), (F b)[j]? = some x → (ρ'.F b)[j]? = some x) ∧
   ∃ S' Fo', GhW X ρ' h' w' S' Fo' ∧ (∀ b, S' b → b < w'.heap.size) ∧ (∀ b, S' b → ¬ X.shut b) ∧ ∀ b, b < w.heap.size → ¬ ((∃ i N, ρ i = some (b, N)) ∨ S b) → ¬ S' b := by
 have p' := p.rebase hS hF hold q q.keep
 obtain ⟨S', Fo', s1, s2, s3⟩ := q.gh.wit
 refine ⟨p', q.ext.1, fun b hb hn => ⟨q.ext.2 b ⟨hb, hn⟩, q.old b ⟨hb, hn⟩, fun i N e => q.mine i b N e ⟨hb, hn⟩⟩, q.sub, S', Fo', fun G hG t z n l e => ?_, s2, fun b a hb => ?_, fun b hb hn a => s3 b a ⟨hb, hn⟩⟩
 ·obtain ⟨a1, a2, a3, a4, a5, a6, a7, a8, a9⟩ := s1 G hG t z n l e
  refine ⟨a1, a2, a3, a4, a5, a6, a7, fun b a hb => a8 b a ?_, a9⟩
  exact ⟨Nat.lt_of_lt_of_le hb.1 p.ext.1.size, fun y => y.elim (fun ⟨i, N, e⟩ => p.mine i b N e hb) (fun a => hS b a hb)⟩
 ·exact s3 b a ⟨Nat.lt_of_lt_of_le hb.1 p.ext.1.size, fun y => y.elim (fun ⟨i, N, e⟩ => p.mine i b N e hb) (fun a => hS b a hb)⟩
structure Base where
 w0 : World
 F0 : Nat → List Value
 opn : Nat → Prop
 ro : Option Nat
 gx : List Value
def XH (X : Cx) (L : List (Nat × AV)) (n : Nat) (m : List Nat) (b : Base) : Cx := ⟨X.c, b.w0, b.F0, b.opn, X.g, b.ro, [], held L (n :: m) none ++ X.gv, b.gx⟩
def QB (X : Cx) (sz : Nat) (k : List It) (L : List (Nat × AV)) (n : Nat) (m : List Nat) (Q : Post) (h' : Heap) (b : Base) : Post := fun x s =>
 match x with
 | .normal => ChgE (XH X L n m b) s.h h'
 | x => ∀ e, Has e L → RunK X sz none k Q x ⟨e, s.h, n :: m⟩
def QA (X : Cx) (sz : Nat) (k : List It) (L : List (Nat × AV)) (n : Nat) (m : List Nat) (Q : Post) (h' : Heap) (body : Code) : Post := fun x s =>
 x = .normal ∧ ∀ b, RunK (XH X L n m b) sz none [.code body] (QB X sz k L n m Q h' b) .normal s
section
variable {X : Cx} {sz : Nat} {k : List It} {L L' : List (Nat × AV)} {h h' : Heap} {n : Nat} {m m' : List Nat} {Q : Post}
theorem Go.bodyK {X' : Cx} {body : Code} (H : ∀ b, Go (XH X L n m b) sz none [.code body] L' h m' (QB X sz k L n m Q h' b)) : Go X' sz none [] L' h m' (QA X sz k L n m Q h' body) :=
 Go.nil fun e he => ⟨rfl, fun b => (H b).run e he⟩
theorem Go.nextK {b : Base} (H : ChgE (XH X L n m b) h h') : Go (XH X L n m b) sz none [] L' h m' (QB X sz k L n m Q h' b) :=
 Go.nil fun e he => H
theorem Go.stopX {b : Base} {id : Nat} {k' k2 : List It} (hx : xit id k' = none) (h2 : xit id k = some k2) (H : Go X sz none k2 L h (n :: m) Q) : Go (XH X L n m b) sz none (.code (.exit id) :: k') L' h m' (QB X sz k L n m Q h' b) := ⟨fun e he => Tri.exit (by
 have key : ∀ {k' : List It}, xit id k' = none → RunK (XH X L n m b) sz none k' (QB X sz k L n m Q h' b) (.exit id) ⟨e, h, m'⟩ := by
  intro k'
  induction k' with
  | nil => intro _; exact fun e' he' => xit_run h2 (H.run e' he')
  | cons x k' ih =>
   intro q
   cases x with
   | code c => exact ih q
   | lp c => exact ih q
   | blk i =>
    unfold xit at q
    rw [show RunK (XH X L n m b) sz none (.blk i :: k') (QB X sz k L n m Q h' b) (.exit id) ⟨e, h, m'⟩ = (match Nat.beq id i with | true => RunK (XH X L n m b) sz none k' (QB X sz k L n m Q h' b) .normal ⟨e, h, m'⟩ | false => RunK (XH X L n m b) sz none k' (QB X sz k L n m Q h' b) (.exit id) ⟨e, h, m'⟩) from rfl]
    cases hi : Nat.beq id i with
    | true => rw [hi] at q; cases q
    | false => rw [hi] at q; exact ih q
 exact key hx)⟩
end
theorem Go.rangeK {X : Cx} {tb : List (Nat × TE)} (E : Env X.c tb) {sz : Nat} {k : List It} {L : List (Nat × AV)} {h : Heap} {m : List Nat} {Q : Post} (n : Nat) {f : Operand} {ps : Array Tmp} {assign body : Code} {g : FuncId} {cap : List AV} {items : List (List AV)} (hn : h.nxt = n) (hfv : evL L f = some (.fn (.func g) [] cap)) (hdat : datsB cap = true) (hk : KIt X.c g cap items) (hon : onceB L = true)
  (H : Nat → Heap) (h0 : ∀ b, ChgE (XH X L n m b) (newAt n h (.dfr true)) (H 0)) (hps : ∀ (j : Nat) (v : List AV), items[j]? = some v → Nat.beq ps.toList.length v.length = true) (hps2 : (ps.toList.all fun p => Nat.ble (p + 1) sz) = true)
  (hbody : ∀ (j : Nat) (v : List AV), items[j]? = some v → ∀ b, Go (XH X L n m b) sz none [.code assign] (setL ps.toList v L) (H j) [] (QA X sz k L n m Q (H (j + 1)) body))
  (nx : Go X sz none k L (H items.length) (n :: m) Q) (hro : X.ro = none := by rfl) (hgn : X.g = none ∨ ∃ t z q l, h.get 0 = .arr t z q l := by first | exact .inl rfl | exact .inr ⟨_, _, _, _, rfl⟩) :
  Go X sz none (.code (.rangeFunc f ps assign body) :: k) L h m Q := ⟨fun e0 he => by
 subst hn
 intro ro ρ w a Q' h1 p h3 h4 h5
 have hro' : ro = none := (show ro = X.ro from h1).trans hro
 subst hro'
 refine wpIn_rangeFunc fun fn' _ => ?_
 have g1 := Good.newBlock p.hr p.wf (p.fr.1 _ (Nat.le_refl _)) (.dfr true) (.deferred (some [])) 0 (fun r q => by cases q) (by simp only [ABR]; exact World.alloc_heap_new _ _)
 have p1 := p.good g1 (ArrKeep.new rfl)
 have hs1 : Sub ρ (upd ρ h.nxt (w.heap.size, 0)) := g1.sub
 generalize hwA : w.alloc (.deferred (some [])) = wA at *
 have hsA : wA.heap.size = w.heap.size + 1 := by rw [← hwA]; simp [World.size_alloc]
 generalize hρ1 : upd ρ h.nxt (w.heap.size, 0) = ρ1 at *
 have hm1 : MRX X ρ1 (h.nxt :: m) ([{ target := .collected w.heap.size, args := #[] }] ++ a.defers) :=
  MRX.push (m := [h.nxt]) (D := [{ target := .collected w.heap.size, args := #[] }]) ⟨w.heap.size, 0, [], (by rw [← hρ1]; exact upd_same _ _ _), rfl, rfl⟩ (h4.mono hs1)
 obtain ⟨gx0, b1, b2⟩ := held_in (X := X) (rd := none) (L := L) (h1.mono hs1) (h3.mono hs1) he hon hm1
 have hB : (wA.alloc (.loop { state := .ready, pending := none, fn := fn', tmps := a.tmps, params := ps, assign, body, defers := w.heap.size })).heap.size = wA.heap.size + 1 := by simp [World.size_alloc]
 have hBl : (wA.alloc (.loop { state := .ready, pending := none, fn := fn', tmps := a.tmps, params := ps, assign, body, defers := w.heap.size })).heap[wA.heap.size]? = some (.loop { state := .ready, pending := none, fn := fn', tmps := a.tmps, params := ps, assign, body, defers := w.heap.size }) := World.alloc_heap_new _ _
 have hBo : ∀ b, b < wA.heap.size → (wA.alloc (.loop { state := .ready, pending := none, fn := fn', tmps := a.tmps, params := ps, assign, body, defers := w.heap.size })).heap[b]? = wA.heap[b]? := fun b hb => by
  show (wA.heap.push _)[b]? = _
  rw [Array.getElem?_push, if_neg (by omega)]
 have hBs : Same wA (wA.alloc (.loop { state := .ready, pending := none, fn := fn', tmps := a.tmps, params := ps, assign, body, defers := w.heap.size })) := ⟨rfl, rfl, rfl, by omega⟩
 have hent : (Instr.enterLoop fn' a.tmps ps assign body none).run X.c.P w = .ok (wA.heap.size, [{ target := .collected w.heap.size, args := #[] }]) (wA.alloc (.loop { state := .ready, pending := none, fn := fn', tmps := a.tmps, params := ps, assign, body, defers := w.heap.size })) := by
  rw [run_enterLoop_outer, hwA, hsA]
 generalize wA.alloc (.loop { state := .ready, pending := none, fn := fn', tmps := a.tmps, params := ps, assign, body, defers := w.heap.size }) = wB at *
 generalize hB' : wA.heap.size = B at *
 have hgn' : ∀ G, X.g = some G → G.n0 ≤ w.heap.size := fun G hG => by
  rcases hgn with q | ⟨t, z, q, l, e⟩
  ·rw [q] at hG; cases hG
  ·obtain ⟨_, _, _, _, _, _, a, _⟩ := p.gh G hG t z q l e; exact a
 have hw0 : X.w0.heap.size ≤ w.heap.size := p.ext.1.size
 obtain ⟨S0, Fo0, s1, s2, s3⟩ := p1.gh.wit
 obtain ⟨p2, gw⟩ := p1.world hBs (U := fun _ => True) (fun b hb _ => hBo b (by omega)) (fun _ _ _ _ => trivial) (fun _ _ => trivial) (fun _ _ => trivial) s1 (fun _ _ => trivial) (fun _ _ _ _ => trivial)
 have hX : PI ⟨X.c, X.w0, X.F0, X.opn, X.g, none, [], held L (h.nxt :: m) none ++ X.gv, gx0 ++ X.gx⟩ ρ1 (h.new (.dfr true)) wB := p2.more b1
 have lt1 : ∀ i b N, ρ1 i = some (b, N) → b < B := fun i b N e => by have := p1.hr.lt i b N e; omega
 have hb0 : PI (XH X L h.nxt m ⟨wB, ρ1.F, fun b => (∃ i N, ρ1 i = some (b, N)) ∨ S0 b, none, gx0 ++ X.gx⟩) ρ1 (h.new (.dfr true)) wB :=
  hX.base (S := S0) gw none [] _ _ hX.keep (F := ρ1.F) (fun _ _ _ e => e) hX.hr.fz (fun _ _ _ _ => rfl) (fun _ _ => rfl) (fun _ _ _ _ => rfl)
 rw [new_at rfl] at hb0
 obtain ⟨ρ2, p3⟩ := h0 _ ρ1 wB hb0
 obtain ⟨p4, _, fr0, sF0, S2, Fo2, gw2, lt2, nsh2, out2⟩ := hX.leg (S := S0) (fun b q => s3 b q) (F := ρ1.F) (fun _ _ _ e => e) (fun _ _ => rfl) p3
 have hBnot : ¬ ((∃ i N, ρ1 i = some (B, N)) ∨ S0 B) := fun q => q.elim (fun ⟨i, N, e⟩ => Nat.lt_irrefl _ (lt1 i B N e)) fun q => by have := s2 B q; omega
 have hBlt : B < wB.heap.size := by omega
 obtain ⟨_, hBF, hBi⟩ := fr0 B hBlt hBnot
 have hBS := out2 B hBlt hBnot
 have hF1B : ρ1.F B = [] := Classical.byContradiction fun q => by have := p1.hr.F_lt q; omega
 rw [hF1B] at hBF
 let X' : Cx := ⟨X.c, X.w0, X.F0, X.opn, X.g, none, [], held L (h.nxt :: m) none ++ X.gv, gx0 ++ X.gx⟩
 let rec_ : LoopState → Option Ex → Obj := fun st pd => .loop { state := st, pending := pendOf pd, fn := fn', tmps := a.tmps, params := ps, assign, body, defers := w.heap.size }
 let J : Nat → (Nat → Prop) → (Nat → List Value) → World → Prop := fun j S Fo w' => ∃ (ρ' : Map) (T : Nat → Prop) (Ft : Nat → List Value) (hh : Heap) (st : LoopState) (pd : Option Ex),
  PI X' ρ' hh w' ∧ GhW X' ρ' hh w' T Ft ∧ (∀ b, T b → S b ∧ ¬ X'.shut b) ∧ (∀ i b N, ρ' i = some (b, N) → S b ∧ b ≠ B) ∧ (ρ'.F B = [] ∧ ∀ b, ¬ (S b ∨ b < wB.heap.size) → ρ'.F b = Fo b) ∧ (∀ (b i : Nat) (x : Value), (Fo b)[i]? = some x → (ρ'.F b)[i]? = some x) ∧
   S B ∧ ¬ T B ∧ B < w'.heap.size ∧ w'.heap[B]? = some (rec_ st pd) ∧ ((j ≤ items.length ∧ st = .ready ∧ pd = none ∧ hh = H j) ∨ (j = items.length + 1 ∧ st = .done ∧ ∃ x, pd = some x ∧ x ≠ .normal ∧ ∀ e, Has e L → RunK X sz none k Q x ⟨e, hh, h.nxt :: m⟩))
 have hstab : ∀ j S Fo w1 w2, J j S Fo w1 → Same w1 w2 → (∀ b, b < w1.heap.size → (S b ∨ b < wB.heap.size ∨ Fo b ≠ []) → w2.heap[b]? = w1.heap[b]?) → J j S Fo w2 := fun j S Fo w1 w2 ⟨ρ', T, Ft, hh, st, pd, j1, j2, j3, j4, j5, j6, j7, j8, j9, j10, j11⟩ hsm hun => by
  obtain ⟨q1, q2⟩ := j1.world hsm (U := fun b => S b ∨ b < wB.heap.size ∨ Fo b ≠ []) hun (fun i b N e => .inl (j4 i b N e).1) (fun b e => by
   by_cases q : S b ∨ b < wB.heap.size
   ·exact q.elim .inl fun q => .inr (.inl q)
   ·rw [j5.2 b q] at e; exact .inr (.inr e)) (fun b hb => .inr (.inl (by have hb : b < X.w0.heap.size := hb; omega))) j2 (fun b q => .inl (j3 b q).1) (fun G hG b hb => .inr (.inl (by have := hgn' G hG; omega)))
  exact ⟨ρ', T, Ft, hh, st, pd, q1, q2, j3, j4, j5, j6, j7, j8, Nat.lt_of_lt_of_le j9 hsm.size, (hun B j9 (.inl j7)).trans j10, j11⟩
 have hstep : ∀ j S w1 v V (Fo F' : Nat → List Value), items[j]? = some v → J j S Fo w1 → wB.heap.size ≤ w1.heap.size → (∀ b, S b → b < w1.heap.size) → (∀ b, S b ∨ b < wB.heap.size → F' b = Fo b) → (∀ (b i : Nat) (x : Value), (Fo b)[i]? = some x → (F' b)[i]? = some x) → FzW F' w1 → VRs (fzm F') v V →
   ∃ nx w2, (Instr.yield B V.toArray).run X.c.P w1 = .ok nx w2 ∧ NextOk X.c.P (fun z w' => Same w1 w' ∧ (∀ b, b < w1.heap.size → ¬ S b → w'.heap[b]? = w1.heap[b]?) ∧ FzW F' w' ∧
   ∃ S', (∀ b, S b → S' b) ∧ (∀ b, S' b → b < w'.heap.size ∧ (S b ∨ w1.heap.size ≤ b)) ∧ ((z = .bool true ∧ J (j + 1) S' F' w') ∨ (z = .bool false ∧ J (items.length + 1) S' F' w'))) nx w2 := fun j S w1 v V Fo F' hit ⟨ρ', T, Ft, hh, st, pd, j1, j2, j3, j4, j5, j6, j7, j8, j9, j10, j11⟩ hn0 hSlt hF' hFF' hfz hV => by
  have hjl : j < items.length := (List.getElem?_eq_some_iff.1 hit).1
  obtain ⟨_, rfl, rfl, rfl⟩ : j ≤ items.length ∧ st = .ready ∧ pd = none ∧ hh = H j := by
   rcases j11 with q | q
   ·exact q
   ·have := q.1; omega
  let F2 : Nat → List Value := fun b => @ite _ (S b ∨ b < wB.heap.size) (Classical.propDecidable _) (ρ'.F b) (F' b)
  have f1 : ∀ b, (S b ∨ b < wB.heap.size) → F2 b = ρ'.F b := fun b q => if_pos q
  have f2 : ∀ b, ¬ (S b ∨ b < wB.heap.size) → F2 b = F' b := fun b q => if_neg q
  have f3 : ∀ (b i : Nat) (x : Value), (ρ'.F b)[i]? = some x → (F2 b)[i]? = some x := fun b i x e => by
   by_cases q : S b ∨ b < wB.heap.size
   ·rw [f1 b q]; exact e
   ·rw [f2 b q]; rw [j5.2 b q] at e; exact hFF' b i x e
  have f4 : ∀ (b i : Nat) (x : Value), (F' b)[i]? = some x → (F2 b)[i]? = some x := fun b i x e => by
   by_cases q : S b ∨ b < wB.heap.size
   ·rw [f1 b q]; rw [hF' b q] at e; exact j6 b i x e
   ·rw [f2 b q]; exact e
  have f5 : FzW F2 w1 := fun b i x e => by
   by_cases q : S b ∨ b < wB.heap.size
   ·rw [f1 b q] at e; exact j1.hr.fz b i x e
   ·rw [f2 b q] at e; exact hfz b i x e
  have hsh : ∀ b, X'.shut b → F2 b = ρ'.F b := fun b q => f1 b (.inr (by have q : b < X.w0.heap.size := q.1; omega))
  have pa := j1.base j2 (some B) [] _ _ j1.keep (F := F2) f3 f5 (fun i b N e => f1 b (.inl (j4 i b N e).1)) (fun b q => f1 b (.inl (j3 b q).1)) (fun G hG b hb => f1 b (.inr (by have := hgn' G hG; omega)))
  have hlenV : V.length = v.length := hV.length.symm
  have hps' := beqT (hps j v hit)
  have hy := run_yield (P := X.c.P) (args := V.toArray) j10 (by simp only [List.size_toArray]; rw [hlenV, ← hps']; simp)
  refine ⟨_, w1, hy, ?_⟩
  refine roundIn_of_wpIn trivial ?_
  have hz : (ps.zip V.toArray).foldl (fun tmps (p : Tmp × Value) => tmps.setIfInBounds p.1 p.2) a.tmps = (ps.toList.zip V).foldl (fun tmps (p : Tmp × Value) => tmps.setIfInBounds p.1 p.2) a.tmps := by
   rw [← Array.foldl_toList]
   congr 1
   simp [Array.toList_zip]
  obtain ⟨v1, v2⟩ := VRs.split b1.length j1.keep
  obtain ⟨_, _, u3⟩ := b2 ρ' v1
  obtain ⟨e1, he1, er1⟩ := known_env (σ := ρ') (L := L) (tm := a.tmps) (sz := sz) h3.1 u3
  have hsF : Sub ρ' ⟨ρ'.m, F2, ρ'.V⟩ := ⟨fun _ _ e => e, f3, fun _ _ _ e => e⟩
  obtain ⟨e2, hpe⟩ := setPs_some (sz := sz) e1 (hps j v hit) hps2
  have hV2 : VRs ⟨ρ'.m, F2, ρ'.V⟩ v V := VRs.mono (ρ := fzm F') (σ := ⟨ρ'.m, F2, ρ'.V⟩) ⟨fun _ _ e => (by cases e), f4, fun _ _ _ e => (by cases e)⟩ v hV
  obtain ⟨_, her⟩ := setPs_ok hpe hV2 (er1.mono hsF)
  have hhas := setPs_has hpe he1
  have hA := (hbody j v hit ⟨w1, F2, fun b => (∃ i N, ρ' i = some (b, N)) ∨ T b, some B, gx0 ++ X.gx⟩).run e2 hhas
  have htA : Tri (XH X L h.nxt m ⟨w1, F2, fun b => (∃ i N, ρ' i = some (b, N)) ∨ T b, some B, gx0 ++ X.gx⟩) sz none assign ⟨e2, H j, []⟩ (QA X sz k L h.nxt m Q (H (j + 1)) body) := hA
  refine htA (some B) ⟨ρ'.m, F2, ρ'.V⟩ w1 _ _ rfl pa (by rw [hz]; exact her) ⟨[], rfl, rfl⟩ fun x s' a1 w2 σ1 ⟨hx, hrunB⟩ g1 g2 g3 g4 => ?_
  subst hx
  have hnotB : ¬ ((∃ i N, ρ' i = some (B, N)) ∨ T B) := fun q => q.elim (fun ⟨i, N, e⟩ => (j4 i B N e).2 rfl) j8
  obtain ⟨c1, c2, c3, c4, T1, Ft1, c5, c6, c7, c8⟩ := j1.leg (fun b q => (j3 b q).2) f3 hsh g2
  obtain ⟨d1, d2, d3⟩ := c3 B j9 hnotB
  have hF2B : F2 B = [] := by
   rw [f1 B (.inl j7)]; exact j5.1
  rw [hF2B] at d2
  rw [j10] at d1
  have hB2 : B < w2.heap.size := Nat.lt_of_lt_of_le j9 c2.size
  refine ⟨_, run_beginRound d1 rfl, ?_⟩
  have hput : ∀ (W : World) (o : Obj), Same W (W.putObj B o) := fun W o => ⟨rfl, rfl, rfl, by simp [World.putObj_size]⟩
  obtain ⟨p5, gw5⟩ := c1.world (hput w2 (rec_ .busy none)) (U := fun b => b ≠ B) (fun b _ q => World.putObj_heap_other q) (fun i b N e q => d3 i N (q ▸ e)) (fun b e q => e (q ▸ d2)) (fun b hb q => by have hb : b < X.w0.heap.size := hb; omega) c5 (fun b e q => c8 B j9 hnotB (q ▸ e)) (fun G hG b hb q => by have := hgn' G hG; omega)
  have pb := p5.base gw5 (some B) [] _ _ p5.keep (F := σ1.F) (fun _ _ _ e => e) p5.hr.fz (fun _ _ _ _ => rfl) (fun _ _ => rfl) (fun _ _ _ _ => rfl)
  have htB : Tri (XH X L h.nxt m ⟨w2.putObj B (rec_ .busy none), σ1.F, fun b => (∃ i N, σ1 i = some (b, N)) ∨ T1 b, some B, gx0 ++ X.gx⟩) sz none body s' (QB X sz k L h.nxt m Q (H (j + 1)) ⟨w2.putObj B (rec_ .busy none), σ1.F, fun b => (∃ i N, σ1 i = some (b, N)) ∨ T1 b, some B, gx0 ++ X.gx⟩) := hrunB _
  refine htB (some B) σ1 _ a1 _ rfl pb g3 g4 fun x s2 a2 w3 σ2 hQ k1 k2 k3 k4 => ?_
  have hB2' : B < (w2.putObj B (rec_ .busy none)).heap.size := by simp only [World.putObj_size]; exact hB2
  have hnotB2 : ¬ ((∃ i N, σ1 i = some (B, N)) ∨ T1 B) := fun q => q.elim (fun ⟨i, N, e⟩ => d3 i N e) (c8 B j9 hnotB)
  have fin : ∀ (st2 : LoopState) (pd2 : Option Ex) (bb : Bool) (σ3 : Map) (h3' : Heap), PI (XH X L h.nxt m ⟨w2.putObj B (rec_ .busy none), σ1.F, fun b => (∃ i N, σ1 i = some (b, N)) ∨ T1 b, some B, gx0 ++ X.gx⟩) σ3 h3' w3 →
    (∃ j', ((bb = true ∧ j' = j + 1) ∨ (bb = false ∧ j' = items.length + 1)) ∧ ((j' ≤ items.length ∧ st2 = .ready ∧ pd2 = none ∧ h3' = H j') ∨ (j' = items.length + 1 ∧ st2 = .done ∧ ∃ x, pd2 = some x ∧ x ≠ .normal ∧ ∀ e, Has e L → RunK X sz none k Q x ⟨e, h3', h.nxt :: m⟩))) →
    w3.heap[B]? = some (rec_ .busy none) ∧ (Same w1 (w3.putObj B (rec_ st2 pd2)) ∧ (∀ b, b < w1.heap.size → ¬ S b → (w3.putObj B (rec_ st2 pd2)).heap[b]? = w1.heap[b]?) ∧ FzW F' (w3.putObj B (rec_ st2 pd2)) ∧
     ∃ S', (∀ b, S b → S' b) ∧ (∀ b, S' b → b < (w3.putObj B (rec_ st2 pd2)).heap.size ∧ (S b ∨ w1.heap.size ≤ b)) ∧ ((Value.bool bb = .bool true ∧ J (j + 1) S' F' (w3.putObj B (rec_ st2 pd2))) ∨ (Value.bool bb = .bool false ∧ J (items.length + 1) S' F' (w3.putObj B (rec_ st2 pd2))))) := fun st2 pd2 bb σ3 h3' pq ⟨j', hj', hend⟩ => by
   obtain ⟨e1, e2, e3, e4, T2, Ft2, e5, e6, e7, e8⟩ := p5.leg c7 (fun _ _ _ e => e) (fun _ _ => rfl) pq
   obtain ⟨x1, x2, x3⟩ := e3 B hB2' hnotB2
   rw [World.putObj_heap_same hB2] at x1
   rw [d2] at x2
   have hT2 := e8 B hB2' hnotB2
   have hB3 : B < w3.heap.size := Nat.lt_of_lt_of_le hB2' e2.size
   obtain ⟨p6, gw6⟩ := e1.world (hput w3 (rec_ st2 pd2)) (U := fun b => b ≠ B) (fun b _ q => World.putObj_heap_other q) (fun i b N e q => x3 i N (q ▸ e)) (fun b e q => e (q ▸ x2)) (fun b hb q => by have hb : b < X.w0.heap.size := hb; omega) e5 (fun b e q => hT2 (q ▸ e)) (fun G hG b hb q => by have := hgn' G hG; omega)
   have hsz : w1.heap.size ≤ w3.heap.size := by
    have := c2.size
    have := e2.size
    simp only [World.putObj_size] at this
    omega
   have old1 : ∀ b, b < w1.heap.size → ¬ S b → ¬ ((∃ i N, ρ' i = some (b, N)) ∨ T b) := fun b _ q y => y.elim (fun ⟨i, N, e⟩ => q (j4 i b N e).1) fun y => q (j3 b y).1
   have old2 : ∀ b, b < w1.heap.size → ¬ S b → b < (w2.putObj B (rec_ .busy none)).heap.size ∧ ¬ ((∃ i N, σ1 i = some (b, N)) ∨ T1 b) := fun b hb q => by
    refine ⟨by simp only [World.putObj_size]; have := c2.size; omega, fun y => y.elim (fun ⟨i, N, e⟩ => ?_) fun y => c8 b hb (old1 b hb q) y⟩
    exact (c3 b hb (old1 b hb q)).2.2 i N e
   have old3 : ∀ b, b < w1.heap.size → ¬ S b → w3.heap[b]? = w1.heap[b]? ∧ σ3.F b = F2 b ∧ (∀ i N, σ3 i ≠ some (b, N)) ∧ ¬ T2 b := fun b hb q => by
    obtain ⟨y1, y2⟩ := old2 b hb q
    obtain ⟨z1, z2, z3⟩ := e3 b y1 y2
    obtain ⟨t1, t2, _⟩ := c3 b hb (old1 b hb q)
    have hne : b ≠ B := fun e => q (e ▸ j7)
    exact ⟨(z1.trans (World.putObj_heap_other hne)).trans t1, z2.trans t2, z3, e8 b y1 y2⟩
   have hFF : ∀ (b i : Nat) (x : Value), (F2 b)[i]? = some x → (σ3.F b)[i]? = some x := fun b i x e => e4 b i x (c4 b i x e)
   have hJ : J j' (fun b => S b ∨ (w1.heap.size ≤ b ∧ b < w3.heap.size)) F' (w3.putObj B (rec_ st2 pd2)) := by
    refine ⟨σ3, T2, Ft2, h3', st2, pd2, p6, gw6, fun b q => ⟨?_, e7 b q⟩, fun i b N e => ⟨?_, fun q => x3 i N (q ▸ e)⟩, ⟨x2, fun b q => ?_⟩, fun b i x e => hFF b i x (f4 b i x e), .inl j7, hT2, by simp only [World.putObj_size]; exact hB3, World.putObj_heap_same hB3, hend⟩
    ·by_cases hb : b < w1.heap.size
     ·exact .inl (Classical.byContradiction fun hn => (old3 b hb hn).2.2.2 q)
     ·exact .inr ⟨by omega, by have := e6 b q; omega⟩
    ·by_cases hb : b < w1.heap.size
     ·exact .inl (Classical.byContradiction fun hn => (old3 b hb hn).2.2.1 i N e)
     ·exact .inr ⟨by omega, e1.hr.lt i b N e⟩
    ·have q1 : ¬ S b := fun y => q (.inl (.inl y))
     have q2 : ¬ b < wB.heap.size := fun y => q (.inr y)
     by_cases hb : b < w1.heap.size
     ·rw [(old3 b hb q1).2.1, f2 b (fun y => y.elim q1 q2)]
     ·have hb3 : ¬ b < w3.heap.size := fun y => q (.inl (.inr ⟨by omega, y⟩))
      have r1 : σ3.F b = [] := Classical.byContradiction fun y => hb3 (e1.hr.F_lt y)
      rw [r1, fo_nil (fun b i x e => hFF b i x (f4 b i x e)) r1]
   refine ⟨x1, ⟨(c2.trans (hput w2 _)).trans (e2.trans (hput w3 _)), fun b hb q => ?_, fun b i x e => p6.hr.fz b i x (hFF b i x (f4 b i x e)), fun b => S b ∨ (w1.heap.size ≤ b ∧ b < w3.heap.size), fun b q => Or.inl q, fun b q => ⟨?_, ?_⟩, ?_⟩⟩
   ·rw [World.putObj_heap_other (fun e : b = B => q (by rw [e]; exact j7))]; exact (old3 b hb q).1
   ·simp only [World.putObj_size]
    rcases q with q | q
    ·have := hSlt b q; omega
    ·exact q.2
   ·rcases q with q | q
    ·exact .inl q
    ·exact .inr q.1
   ·rcases hj' with ⟨rfl, rfl⟩ | ⟨rfl, rfl⟩
    ·exact .inl ⟨rfl, hJ⟩
    ·exact .inr ⟨rfl, hJ⟩
  cases x with
  | normal =>
   obtain ⟨σ3, pq⟩ := hQ σ2 w3 k2
   obtain ⟨y1, y2⟩ := fin .ready none true σ3 _ pq ⟨j + 1, .inl ⟨rfl, rfl⟩, .inl ⟨hjl, rfl, rfl, rfl⟩⟩
   exact ⟨_, _, run_endRound none y1, y2⟩
  | exit id =>
   obtain ⟨y1, y2⟩ := fin .done (some (.exit id)) false σ2 _ k2 ⟨items.length + 1, .inr ⟨rfl, rfl⟩, .inr ⟨rfl, rfl, _, rfl, (by simp), hQ⟩⟩
   exact ⟨_, _, run_endRound (some (.exit id)) y1, y2⟩
  | ret =>
   obtain ⟨y1, y2⟩ := fin .done (some .ret) false σ2 _ k2 ⟨items.length + 1, .inr ⟨rfl, rfl⟩, .inr ⟨rfl, rfl, _, rfl, (by simp), hQ⟩⟩
   exact ⟨_, _, run_endRound (some .ret) y1, y2⟩
 let G : Gho X.c.P := ⟨wB.heap.size, J, hstab, B, items, hstep⟩
 have hfv' := VR.mono hs1 _ (ev_ok h3 f)
 rw [he.ev hfv] at hfv'
 simp only [VR, FR, VRs] at hfv'
 obtain ⟨f', F, C, e1, rfl, e3, e4⟩ := hfv'
 subst e1
 have hC : VRs (fzm ρ2.F) cap C := VRs.mono (ρ := ρ1.d) (σ := fzm ρ2.F) ⟨fun _ _ e => (by cases e), sF0, fun _ _ _ e => (by cases e)⟩ cap (dats_ok cap hdat e3)
 obtain ⟨nx', wc, q1, q2⟩ := hk.run G wB C (fun b => (∃ i N, ρ2 i = some (b, N)) ∨ S2 b ∨ b = B) ρ2.F rfl rfl p4.hr.fz hC (.inr (.inr rfl)) (by
  refine ⟨ρ2, S2, Fo2, H 0, .ready, none, p4, gw2, fun b q => ⟨.inr (.inl q), nsh2 b q⟩, fun i b N e => ⟨.inl ⟨i, N, e⟩, fun q => hBi i N (q ▸ e)⟩, ⟨hBF, fun b q => rfl⟩, fun _ _ _ e => e, .inr (.inr rfl), hBS, hBlt, hBl, .inl ⟨Nat.zero_le _, rfl, rfl, rfl⟩⟩) (fun b q => by
   rcases q with ⟨i, N, e⟩ | q | q
   ·exact p4.hr.lt i b N e
   ·exact lt2 b q
   ·omega)
 obtain ⟨fn, hfn, hbody'⟩ := hk.fn
 obtain ⟨bodyG, hbodyG⟩ := Option.isSome_iff_exists.1 hbody'
 have hnm : fn.name ≠ "runtime.NumGoroutine" := by simpa using E.k.names g fn hfn
 have hcall : ∀ (A : Array Value), (callFunc g A).run X.c.P wB = .ok (.enter g A) wB := fun A => by simp [callFunc, hfn, hnm, hbodyG, Sem.run]
 rw [hcall] at q1
 cases q1
 have harr : (([] : List Value).toArray ++ #[Value.func (.yield B) #[] #[]] ++ C.toArray) = (Value.func (.yield B) #[] #[] :: C).toArray := by apply Array.ext'; simp
 refine ⟨B, [{ target := .collected w.heap.size, args := #[] }], wB, { target := .fn (.func g) C.toArray, args := ([] : List Value).toArray ++ #[Value.func (.yield B) #[] #[]] }, wB, g, ([] : List Value).toArray ++ #[Value.func (.yield B) #[] #[]] ++ C.toArray, wB, hent, ?_, fun _ _ => trivial, ?_, fun q => by simp [wideR, Fence.wide] at q, ?_⟩
 ·simp only [resolve, e4, Deferred.ofValue, Sem.run_pure]
  simp [Act.eval]
 ·simp only [invoke]
  exact hcall _
 ·rw [harr]
  have q3 : CallsIn Fence.wide 0 X.c.P g (Value.func (.yield B) #[] #[] :: C).toArray wB (EndR _) := q2
  refine CallsIn.mono (callsIn_ro q3) fun e w' r => ?_
  cases e with
  | panicked ch => exact r.elim
  | outgrown => exact r.elim
  | returned z =>
   obtain ⟨r1, r2, k', S', F', r3, ρ', T, Ft, hh, st, pd, j1, j2, j3, j4, j5, j6, j7, j8, j9, j10, j11⟩ := r
   have hst : st ≠ .busy := by
    rcases j11 with q | q
    ·rw [q.2.1]; simp
    ·rw [q.2.1]; simp
   obtain ⟨v1, v2⟩ := VRs.split b1.length j1.keep
   obtain ⟨u1, u2, u3⟩ := b2 ρ' v1
   obtain ⟨p9, _⟩ := j1.world (w' := w'.putObj B (.loop { state := .exhausted, pending := pendOf pd, fn := fn', tmps := a.tmps, params := ps, assign, body, defers := w.heap.size })) ⟨rfl, rfl, rfl, by simp only [World.putObj_size]; omega⟩ (U := fun b => b ≠ B) (fun b _ q => World.putObj_heap_other q) (fun i b N e q => (j4 i b N e).2 q) (fun b e q => e (q ▸ j5.1)) (fun b hb q => by have hb : b < X.w0.heap.size := hb; omega) j2 (fun b e q => j8 (q ▸ e)) (fun G hG b hb q => by have := hgn' G hG; omega)
   have p10 := (PI.less p9 b1.length).1
   obtain ⟨e', he', er'⟩ := known_env (σ := ρ') (L := L) (tm := a.tmps) (sz := sz) h3.1 u3
   refine ⟨pendOf pd, _, run_endLoop j10 hst, ?_⟩
   rcases j11 with ⟨q5, _, rfl, rfl⟩ | ⟨_, _, x, rfl, hxn, hrun⟩
   ·have hk' : k' = items.length := by omega
    subst hk'
    exact h5 .normal ⟨e', _, _⟩ { a with defers := [{ target := .collected w.heap.size, args := #[] }] ++ a.defers } _ ρ' (nx.run e' he') u1 p10 er' u2
   ·have fin := h5 x ⟨e', _, h.nxt :: m⟩ { a with defers := [{ target := .collected w.heap.size, args := #[] }] ++ a.defers } _ ρ' (hrun e' he') u1 p10 er' u2
    cases x with
    | normal => exact absurd rfl hxn
    | exit id => exact wpIn_exit fin
    | ret => exact wpIn_ret fin⟩
end Go.Px
end
section
namespace Go.Px
structure Hid (X : Cx) (ρ : Map) (S : Nat → Prop) (n0 : Nat) (w : World) (B : Nat) : Prop where
  lt : B < w.heap.size
  at_ : w.heap[B]? = some (.deferred (some []))
  im : ∀ i N, ρ i ≠ some (B, N)
  F : ρ.F B = []
  sh : ¬ X.shut B
  S : ¬ S B
  n0 : n0 ≤ B
/-! ## the loop -/
structure B2 where
  w0 : World
  F0 : Nat → List Value
  opn : Nat → Prop
  hid : List Nat
end Go.Px
end
section
namespace Go.Px
open Go.Sort Go.Proofs
section
variable {X : Cx} {tb : List (Nat × TE)} (E : Env X.c tb) {sz : Nat} {rd : Option Nat} {all : Array Oper} {o : Oper} {rest : List Oper} {k : List It} {L : List (Nat × AV)} {h : Heap} {m : List Nat} {Q : Post}
include E
omit E in
theorem own_at {ρ : Map} {w : World} (hr : HR ρ h w) {id n t z : Nat} {l : List AV} (hg : h.get id = .arr t z n l) (hn : n ≠ 0) {x : Value} (hx : VR ρ (.own id n z) x) : ∃ B C, x = .slice (some ⟨B, 0, none⟩) n C ∧ ρ.V id n = some (.slice (some ⟨B, 0, none⟩) n C) := by
 simp only [VR] at hx
 obtain ⟨h1, ⟨h2, _⟩ | ⟨B, C, h2, _⟩⟩ := hx
 ·exact absurd h2 hn
 ·exact ⟨B, C, h2, by rw [h1, h2]⟩
end
end Go.Px
end
section
open Go.Sort Go.Proofs
namespace Go.Px
end Go.Px
end
section
namespace Go.Px
section
variable {X : Cx} {tb : List (Nat × TE)} (E : Env X.c tb) {sz : Nat} {rd : Option Nat} {all : Array Oper} {o : Oper} {rest : List Oper} {k : List It} {L : List (Nat × AV)} {h : Heap} {m : List Nat} {Q : Post}
include E
end
end Go.Px
end
section
namespace Go.Px
section
variable {X : Cx} {tb : List (Nat × TE)} (E : Env X.c tb) {sz : Nat} {rd : Option Nat} {all : Array Oper} {o : Oper} {rest : List Oper} {k : List It} {L : List (Nat × AV)} {h : Heap} {m : List Nat} {Q : Post}
include E
omit E in
theorem Chg.tokS (n0 t ty z : Nat) {u : AV} (hn0 : h.nxt = n0) (hu : noRoom u = true) (hl : lkO L t = some u) (hz : X.g = none ∨ Nat.ble 1 n0 = true := by first | exact .inl rfl | exact .inr rfl) : Chg X sz rd L h ((t, .own n0 0 z) :: L) (newAt n0 h (.arr ty z 0 [])) m := by
 subst hn0
 rw [← new_at rfl]
 exact Chg.tokU t ty z hu hl hz
end
end Go.Px
end
section
namespace Go.Px
theorem mrx_out {X : Cx} {ρ ρ' : Map} {id : Nat} (m2 : ∀ i, i ≠ id → ρ' i = ρ i) : ∀ {m : List Nat} {D : List Deferred}, (m.all fun i => !Nat.beq i id) = true → MR ρ m D → MR ρ' m D
 | [], D, _, q => q
 | d :: m, D, hh, q => by
  simp only [List.all_cons, Bool.and_eq_true] at hh
  obtain ⟨B, N, r, q1, q2, q3⟩ := q
  exact ⟨B, N, r, by rw [m2 d (nb hh.1)]; exact q1, mrx_out (X := X) m2 hh.2 q2, q3⟩
theorem rox_out {X : Cx} {ρ ρ' : Map} {id : Nat} {rd ro : Option Nat} (m2 : ∀ i, i ≠ id → ρ' i = ρ i) (hrd : rdNot id rd = true) (h1 : RoX X ρ rd ro) : RoX X ρ' rd ro := by
 cases rd with
 | none => exact h1
 | some r =>
  obtain ⟨B, N, q1, q2⟩ := h1
  exact ⟨B, N, by rw [m2 r (nb (show (!Nat.beq r id) = true from hrd))]; exact q1, q2⟩
section
variable {X : Cx} {sz : Nat} {rd : Option Nat} {L : List (Nat × AV)} {h : Heap} {m : List Nat}
theorem Chg.cellFrz (id k : Nat) {t ty : TypeId} {z n : Nat} {l : List AV} (hg : h.get id = .row ⟨t, 1, .leaf, [.own k n z], none⟩) (hk : h.get k = .arr ty z n l) (hi : HInd k h) (hL : indL k L = true) (hm : (m.all fun i => !Nat.beq i k) = true) (hrd : rdNot k rd = true) (hG : indsB k X.gv = true := by rfl) :
  Chg X sz rd L h L ((h.put k .none).put id (.row ⟨t, 1, .leaf, [.rsl n z l], none⟩)) m := fun ro ρ w e a h1 p h3 he h4 => by
 obtain ⟨ρ', p', sx, m2, f4, fV⟩ := p.frzArr hk hi hG
 have hne : id ≠ k := fun q => by subst q; rw [hg] at hk; cases hk
 have hg' : (h.put k .none).get id = .row ⟨t, 1, .leaf, [.own k n z], none⟩ := by rw [Heap.get_put, if_neg hne]; exact hg
 have p2 := p'.cell (r' := ⟨t, 1, .leaf, [.rsl n z l], none⟩) hg' rfl rfl rfl rfl (fun j v hj q => by
  have hj : j = 0 := by have hj : j < 1 := hj; omega
  subst hj
  rw [row1] at q ⊢
  refine f4 v ?_
  simp only [VR] at q ⊢
  rw [fV] at q; exact q)
 obtain ⟨e', he', er'⟩ := known_env (σ := ρ') (L := L) (tm := a.tmps) (sz := sz) h3.1 (fun s v q => by
  have := h3.2 s
  rw [he s v q] at this
  exact ind_ok sx v (indL_at hL s v q) this)
 obtain ⟨D1, h5, h6⟩ := h4
 exact ⟨ρ', e', rox_out m2 hrd h1, p2, er', he', ⟨D1, mrx_out (X := X) m2 hm h5, h6⟩⟩
end
section
variable {X : Cx} {tb : List (Nat × TE)} (E : Env X.c tb) {sz : Nat} {rd : Option Nat} {all : Array Oper} {o : Oper} {rest : List Oper} {k : List It} {L : List (Nat × AV)} {h : Heap} {m : List Nat} {Q : Post}
include E
end
end Go.Px
end
section
namespace Go.Px
noncomputable def chkOrdP (c : Ctx) (ops : List Oper) (p : Nat) (ord : List Nat) : Bool :=
 match stepsOf c ops (masks ops []) ord with
 | some L => (planOk ops (masks ops []) (writers ops .leaf 0) (Nat.pred (bit1 p)) L 0 && preOk (masks ops []) p) && (sufOk ((masks ops []).drop p) p && Nat.ble p ops.length)
 | none => false
section
variable {X : Cx} {sz : Nat} {rd : Option Nat} {all : Array Oper} {k : List It} {L : List (Nat × AV)} {h : Heap} {m : List Nat} {Q : Post}
theorem Go.drawP {tb0 : List (Nat × TE)} (E : Env X.c tb0) (hm : X.c.P.follows .mixedOrders = true) (tb : List (Ent X.c)) (p : Nat) (ord : List Nat) {id : Nat} (hc : chkOrdP X.c all.toList p ord = true) (n : Dr X sz rd tb all ord [] L h (some h) m (SufQ X sz rd all p k Q)) : Go X sz rd (.code (.region id all true) :: k) L h m Q := ⟨fun e he => by
 unfold chkOrdP at hc
 split at hc
 ·rename_i S hS
  simp only [Bool.and_eq_true] at hc
  obtain ⟨⟨hc1, hc2⟩, hc3, hc4⟩ := hc
  have hpn : p ≤ all.size := by simpa using bleT hc4
  intro ro ρ w a Q' h1 h2 h3 h4 h5
  obtain ⟨e', h', q1, q2, q3⟩ := n.run e he S hS [(h, all.toList.length)] (by simp) (fun g hg x hx => by cases hx; simp at hg; rw [hg])
  obtain ⟨_, q3⟩ : SufQ X sz rd all p k Q .normal ⟨e', h', m⟩ := q3
  refine draw_sound3 E.k hm (papp_ok tb) hS hpn hc1 hc2 hc3 q1 h2.hr h2.wf h2.fr h3 fun a' w' ρ' g er dd => ?_
  refine q3 (List.range' p (all.size - p)) ?_ ro ρ' w' a' Q' (h1.mono g.sub) (h2.good g q2) er (by rw [dd]; exact h4.mono g.sub) (fun s' a2 w2 ρ2 z1 z2 z3 z4 z5 => h5 .normal s' a2 w2 ρ2 z1 z2 z3 z4 z5)
  apply List.ext_getElem?
  intro i
  simp only [List.getElem?_map, List.getElem?_drop]
  by_cases hi : i < all.size - p
  ·rw [List.getElem?_range' hi]
   simp [Array.getElem?_eq_getElem (show p + i < all.size by omega)]
  ·rw [List.getElem?_eq_none (by simp; omega), List.getElem?_eq_none (by simp; omega)]; rfl
 ·cases hc⟩
end
theorem oks_at {A R : List Nat} : ∀ {cs : List AV} {j : Nat}, oksB A R cs = true → j < cs.length → okB A R (cs.getD j .bad) = true
 | [], _, _, h => by simp at h
 | c :: cs, j, h, hj => by
  simp only [oksB] at h
  split at h
  ·rename_i hc
   cases j with
   | zero => exact hc
   | succ j => exact oks_at (cs := cs) h (by simpa using hj)
  ·cases h
theorem ok_row {A R : List Nat} {N : Nat} {t : TypeId} {cs : List AV} (hN : cs.length = N) (h : oksB A R cs = true) : ABOk A R (.row ⟨t, N, .leaf, cs, none⟩) := by
 subst hN
 show ((List.range cs.length).all fun j => okB A R (Row.get ⟨t, cs.length, .leaf, cs, none⟩ j)) = true
 rw [List.all_eq_true]
 intro j hj
 have hj : j < cs.length := by simpa using hj
 rw [row_at_i hj]; exact oks_at h hj
end Go.Px
end
section
namespace Go.Px
noncomputable def rdyG (ops : List Oper) (done : Nat) : Nat → List Nat → List Nat
 | _, [] => []
 | i, _ :: r => (match bitB done i with
  | true => rdyG ops done (i + 1) r
  | false => (match nth1 ops i with
   | some o => (match o.after.toList.all fun e => (match edgeB e with | true => (bitB done e.on && Nat.ble (e.on + 1) ops.length) | false => true) with
    | true => i :: rdyG ops done (i + 1) r
    | false => rdyG ops done (i + 1) r)
   | none => rdyG ops done (i + 1) r))
noncomputable def rdy (ops : List Oper) (done : Nat) : List Nat := rdyG ops done 0 (List.range ops.length)
theorem rdyG_mem (ops : List Oper) (done : Nat) : ∀ (r : List Nat) (i j : Nat), i ≤ j → j < i + r.length → bitB done j = false → (∃ o, nth1 ops j = some o ∧ ∀ e ∈ o.after.toList, edgeB e = true → bitB done e.on = true ∧ e.on < ops.length) → j ∈ rdyG ops done i r
 | [], i, j, h1, h2, _, _ => absurd h2 (by simp; omega)
 | x :: r, i, j, h1, h2, hb, ho => by
  have ih := fun (q : i ≠ j) => rdyG_mem ops done r (i + 1) j (by omega) (by simp at h2; omega) hb ho
  unfold rdyG
  by_cases hij : i = j
  ·subst hij
   rw [hb]
   obtain ⟨o, e1, e2⟩ := ho
   simp only [e1]
   have : (o.after.toList.all fun e => (match edgeB e with | true => (bitB done e.on && Nat.ble (e.on + 1) ops.length) | false => true)) = true := by
    rw [List.all_eq_true]
    intro e he
    cases hg : edgeB e with
    | true =>
     obtain ⟨q1, q2⟩ := e2 e he hg
     simp only [q1, Bool.true_and]
     exact Nat.ble_eq_true_of_le q2
    | false => rfl
   simp [this]
  ·have ih := ih hij
   split
   ·exact ih
   ·split
    ·split
     ·exact List.mem_cons_of_mem _ ih
     ·exact ih
    ·exact ih
theorem rdyG_spec (ops : List Oper) (done : Nat) : ∀ (r : List Nat) (i j : Nat), j ∈ rdyG ops done i r → bitB done j = false ∧ ∃ o, nth1 ops j = some o ∧ ∀ e ∈ o.after.toList, edgeB e = true → bitB done e.on = true ∧ e.on < ops.length
 | [], i, j, h => by cases h
 | x :: r, i, j, h => by
  have ih := rdyG_spec ops done r (i + 1) j
  unfold rdyG at h
  split at h
  ·exact ih h
  ·rename_i hb
   split at h
   ·rename_i o ho
    split at h
    ·rename_i ha
     rcases List.mem_cons.1 h with h | h
     ·subst h
      refine ⟨hb, o, ho, fun e he hg => ?_⟩
      have := List.all_eq_true.1 ha e he
      simp only [hg, Bool.and_eq_true] at this
      exact ⟨this.1, Nat.le_of_ble_eq_true this.2⟩
     ·exact ih h
    ·exact ih h
   ·exact ih h
theorem rdy_of {ops : Array Oper} {listed : Array Bool} {done i : Nat} (hs : listed.size = ops.size) (hd : ∀ i, i < ops.size → listed.getD i false = bitB done i) (h : i ∈ Region.ready .any ops listed) : i ∈ rdy ops.toList done ∧ i < ops.size := by
 unfold Region.ready at h
 rw [List.mem_filter] at h
 obtain ⟨h1, h2⟩ := h
 have hi : i < ops.size := List.mem_range.1 h1
 refine ⟨?_, hi⟩
 simp only [Bool.and_eq_true] at h2
 obtain ⟨h2, h3⟩ := h2
 have hl : listed.getD i false = false := by
  have : listed.getD i true = false := by simpa using h2
  rw [Array.getD_eq_getD_getElem?] at this ⊢
  rw [Array.getElem?_eq_getElem (by omega)] at this ⊢
  exact this
 refine rdyG_mem ops.toList done _ 0 i (Nat.zero_le _) (by simpa using hi) (by rw [← hd i hi]; exact hl) ?_
 rw [Array.getElem?_eq_getElem hi] at h3
 simp only [Option.map_some, Option.getD_some] at h3
 refine ⟨ops[i], by rw [nth1_eq]; simp [hi], fun e he hg => ?_⟩
 rw [Array.all_eq_true_iff_forall_mem] at h3
 have := h3 e (by simpa using he)
 rw [← edgeB_eq, hg] at this
 simp only [Bool.not_true, Bool.false_or] at this
 by_cases hj : e.on < ops.size
 ·rw [← hd _ hj]; exact ⟨this, by simpa using hj⟩
 ·rw [Array.getD_eq_getD_getElem?, Array.getElem?_eq_none (by omega)] at this; cases this
section
variable {X : Cx} {sz : Nat} {rd : Option Nat} {all : Array Oper} {k : List It} {L : List (Nat × AV)} {h : Heap} {m : List Nat} {Q : Post}
def AnyT (X : Cx) (sz : Nat) (rd : Option Nat) (all : Array Oper) (fuel done : Nat) (s : St) (K : St → Prop) : Prop :=
 ∀ (listed : Array Bool), listed.size = all.size → (∀ i, i < all.size → listed.getD i false = bitB done i) →
 ∀ (ro : Option Nat) (ρ : Map) (w : World) (a : Act) (Q' : Exit → Act → World → Prop), RoX X ρ rd ro → PI X ρ s.h w → ER ρ s.e a.tmps sz → MRX X ρ s.m a.defers →
 (∀ s' a' w' ρ', K s' → RoX X ρ' rd ro → PI X ρ' s'.h w' → ER ρ' s'.e a'.tmps sz → MRX X ρ' s'.m a'.defers → Q' .normal a' w') → wpAnyIn (wideR ro) 0 X.c.P .any all Q' fuel listed a w
def AnyQ (X : Cx) (sz : Nat) (rd : Option Nat) (all : Array Oper) (fuel done : Nat) (k : List It) (Q : Post) : Post := fun x s => x = .normal ∧ AnyT X sz rd all fuel done s (fun s' => RunK X sz rd k Q .normal s')
theorem letsOut_of {Q1 Q2 : Exit → Act → World → Prop} (h : ∀ x a w, x ≠ .normal → Q1 x a w → Q2 x a w) (q : LetsOut Q1) : LetsOut Q2 := by
 obtain ⟨a, w, q⟩ := q
 exact ⟨a, w, h _ a w (fun q => by cases q) q⟩
theorem wpOpIn_post {F : Fence} {n : Nat} {P : Program} {ops : Array Oper} {Q1 Q2 : Exit → Act → World → Prop} (h : ∀ x a w, x ≠ .normal → Q1 x a w → Q2 x a w) {i : Nat} {K : Act → World → Prop} {a : Act} {w : World} (hh : wpOpIn F n P ops Q1 i K a w) : wpOpIn F n P ops Q2 i K a w := by
 unfold wpOpIn at *
 split
 ·simpa [*] using hh
 ·rename_i o ho
  simp only [ho] at hh
  split
  ·rename_i hw
   simp only [hw, if_true] at hh
   unfold Oper.wpIn at *
   refine ⟨hh.1, ?_⟩
   have hh := hh.2
   generalize (o.semAt F.round a.eval).run P w = r at *
   cases r with
   | ok x w' =>
    cases x <;> simp only [Oper.uponIn] at hh ⊢ <;>
     first
      | exact hh
      | exact ⟨hh.1, CallsIn.mono hh.2 (fun e w'' he => by cases e <;> first | exact he | exact h _ _ _ (fun q => by cases q) he | exact letsOut_of h he)⟩
      | exact ⟨hh.1, RoundIn.mono hh.2 (fun e w'' he => by cases e <;> first | exact he | exact h _ _ _ (fun q => by cases q) he | exact letsOut_of h he)⟩
   | halt x w' => cases x <;> simp only [Oper.uponIn] at hh ⊢ <;> first | exact hh | exact h _ _ _ (fun q => by cases q) hh
  ·rename_i hw; simp only [hw] at hh; exact hh
theorem Go.anyD (hm : X.c.P.follows .mixedOrders = true) {id : Nat} (n : Go X sz rd [] L h m (AnyQ X sz rd all all.toList.length 0 k Q)) : Go X sz rd (.code (.region id all true) :: k) L h m Q := ⟨fun e he => by
 intro ro ρ w a Q' h1 h2 h3 h4 h5
 obtain ⟨_, q⟩ : AnyQ X sz rd all all.toList.length 0 k Q .normal ⟨e, h, m⟩ := n.run e he
 refine wpIn_region_any hm ?_
 have := q (Array.replicate all.size false) (by simp) (fun i hi => by rw [Array.getD_eq_getD_getElem?, Array.getElem?_replicate, if_pos hi, bit_zero]; rfl) ro ρ { w with drawn := w.drawn + 1 } a Q' h1
  (h2.good ((Good.refl h2.hr h2.wf).draw rfl ⟨rfl, rfl, rfl, Nat.le_refl _⟩) (ArrKeep.refl h)) h3 h4 (fun s' a2 w2 ρ2 z1 z2 z3 z4 z5 => h5 .normal s' a2 w2 ρ2 z1 z2 z3 z4 z5)
 simpa using this⟩
theorem Go.anyEnd {fuel done : Nat} (hr : rdy all.toList done = []) (n : Go X sz rd k L h m Q) : Go X sz rd [] L h m (AnyQ X sz rd all fuel done k Q) := Go.nil fun e he => ⟨rfl, fun listed hs hd ro ρ w a Q' h1 h2 h3 h4 h5 => by
 have hnil : Region.ready .any all listed = [] := by
  cases q : Region.ready .any all listed with
  | nil => rfl
  | cons i r =>
   have := (rdy_of hs hd (i := i) (by rw [q]; exact List.mem_cons_self)).1
   rw [hr] at this; cases this
 have hq : Q' .normal a w := h5 _ a w ρ (n.run e he) h1 h2 h3 h4
 cases fuel with
 | zero => exact ⟨hnil, hq⟩
 | succ fuel =>
  refine ⟨fun _ => hq, fun i hi => ?_⟩
  rw [hnil] at hi; cases hi⟩
def NextA (X : Cx) (sz : Nat) (rd : Option Nat) (all : Array Oper) (fuel done : Nat) (k : List It) (L : List (Nat × AV)) (h : Heap) (m : List Nat) (Q : Post) (i : Nat) : Prop :=
 ∃ o, nth1 all.toList i = some o ∧ Ops X sz rd all [o] [] L h m (AnyQ X sz rd all fuel (orB done (bit1 i)) k Q)
theorem Go.anyStep {fuel done : Nat} (hne : ∀ listed, listed.size = all.size → (∀ i, i < all.size → listed.getD i false = bitB done i) → Region.ready .any all listed ≠ []) (H : ∀ i ∈ rdy all.toList done, NextA X sz rd all fuel done k L h m Q i) : Go X sz rd [] L h m (AnyQ X sz rd all (fuel + 1) done k Q) := Go.nil fun e he => ⟨rfl, fun listed hs hd ro ρ w a Q' h1 h2 h3 h4 h5 => by
 refine ⟨fun q => absurd q (hne listed hs hd), fun i hi => ?_⟩
 obtain ⟨hi1, hi2⟩ := rdy_of hs hd hi
 obtain ⟨o, ho, n⟩ := H i hi1
 rw [nth1_eq] at ho
 have ho' : all[i]? = some o := by simpa using ho
 let Q2 : Exit → Act → World → Prop := fun x a w => match x with | .normal => wpAnyIn (wideR ro) 0 X.c.P .any all Q' fuel (listed.setIfInBounds i true) a w | x => Q' x a w
 have g := n.run e he [i] (by simp [ho']) ro ρ w a Q2 h1 h2 h3 h4 (fun s' a' w' ρ' z1 z2 z3 z4 z5 => by
  obtain ⟨_, z1⟩ : AnyQ X sz rd all fuel (orB done (bit1 i)) k Q .normal s' := z1
  refine z1 (listed.setIfInBounds i true) (by simpa using hs) (fun j hj => ?_) ro ρ' w' a' Q' z2 z3 z4 z5 h5
  rw [bit_or, bit_one, ← hd j hj, Array.getD_eq_getD_getElem?, Array.getD_eq_getD_getElem?, Array.getElem?_setIfInBounds]
  by_cases hij : i = j
  ·subst hij
   rw [if_pos rfl, if_pos (by omega)]
   simp
  ·rw [if_neg hij]
   have : decide (j = i) = false := by simpa using fun q => hij q.symm
   rw [this, Bool.or_false])
 rw [wpOpsIn_cons] at g
 refine wpOpIn_mono (fun a w q => ?_) (wpOpIn_post (Q2 := Q') (fun x a w hx q => by cases x <;> first | exact q | exact absurd rfl hx) g)
 exact q⟩
theorem ready_ne {done i : Nat} {r : List Nat} (hr : rdy all.toList done = i :: r) (listed : Array Bool) (hs : listed.size = all.size) (hd : ∀ i, i < all.size → listed.getD i false = bitB done i) : Region.ready .any all listed ≠ [] := fun q => by
 obtain ⟨h1, o, h2, h3⟩ := rdyG_spec all.toList done (List.range all.toList.length) 0 i (by rw [← rdy, hr]; exact List.mem_cons_self)
 rw [nth1_eq] at h2
 have ho : all[i]? = some o := by simpa using h2
 have hi : i < all.size := by
  rcases Nat.lt_or_ge i all.size with h | h
  ·exact h
  ·rw [Array.getElem?_eq_none h] at ho; cases ho
 have : i ∈ Region.ready .any all listed := by
  unfold Region.ready
  rw [List.mem_filter]
  refine ⟨List.mem_range.2 hi, ?_⟩
  have e1 : listed.getD i true = false := by
   have := hd i hi
   rw [h1] at this
   rw [Array.getD_eq_getD_getElem?] at this ⊢
   rw [Array.getElem?_eq_getElem (by omega)] at this ⊢
   exact this
  rw [e1, ho]
  simp only [Option.map_some, Option.getD_some, Bool.not_false, Bool.true_and]
  rw [Array.all_eq_true_iff_forall_mem]
  intro e he
  cases hg : edgeB e with
  | false => rw [edgeB_eq] at hg; rw [hg]; rfl
  | true =>
   obtain ⟨q1, q2⟩ := h3 e (by simpa using he) hg
   rw [← edgeB_eq, hg, hd e.on (by simpa using q2), q1]; rfl
 rw [q] at this; cases this
section
variable {fuel done : Nat}
theorem Go.any1 {i : Nat} {o : Oper} (hr : rdy all.toList done = [i]) (ho : nth1 all.toList i = some o) (n : Ops X sz rd all [o] [] L h m (AnyQ X sz rd all fuel (orB done (bit1 i)) k Q)) : Go X sz rd [] L h m (AnyQ X sz rd all (fuel + 1) done k Q) :=
 Go.anyStep (ready_ne hr) fun j hj => by
  rw [hr] at hj
  rcases List.mem_singleton.1 hj with rfl
  exact ⟨o, ho, n⟩
theorem Go.any2 {i i2 : Nat} {o o2 : Oper} (hr : rdy all.toList done = [i, i2]) (ho : nth1 all.toList i = some o) (ho2 : nth1 all.toList i2 = some o2) (n : Ops X sz rd all [o] [] L h m (AnyQ X sz rd all fuel (orB done (bit1 i)) k Q)) (n2 : Ops X sz rd all [o2] [] L h m (AnyQ X sz rd all fuel (orB done (bit1 i2)) k Q)) : Go X sz rd [] L h m (AnyQ X sz rd all (fuel + 1) done k Q) :=
 Go.anyStep (ready_ne hr) fun j hj => by
  rw [hr] at hj
  rcases List.mem_cons.1 hj with rfl | hj
  ·exact ⟨o, ho, n⟩
  rcases List.mem_singleton.1 hj with rfl
  exact ⟨o2, ho2, n2⟩
end
end
/-! ## results that stand in boxes -/
def ldO (t a : Nat) : Oper := { dst := none, op := .load t (.tmp a), type := t, pos := "", after := #[], guard := none }
def ResH (X : Cx) (L : List (Nat × AV)) (h : Heap) : List ResultVar → List AV → Prop
 | [], [] => True
 | .tmp t :: r, v :: vs => lkO L t = some v ∧ ResH X L h r vs
 | .cell a t :: r, v :: vs => Hop X L h (ldO t a) v h ∧ ResH X L h r vs
 | _, _ => False
theorem resH_ok {X : Cx} {h : Heap} {L : List (Nat × AV)} {e : T AV} (he : Has e L) : ∀ {res : List ResultVar} {vs : List AV}, ResH X L h res vs → resA X.c h e res = some vs
 | [], [], _ => rfl
 | [], _ :: _, q => q.elim
 | .tmp t :: r, [], q => q.elim
 | .cell a t :: r, [], q => q.elim
 | .tmp t :: r, v :: vs, ⟨q1, q2⟩ => by
  have h1 := resH_ok he q2
  have h2 := he t v q1
  unfold resA at h1 ⊢
  simp only [h2, h1]
 | .cell a t :: r, v :: vs, ⟨q1, q2⟩ => by
  have h1 := resH_ok he q2
  have h2 := q1 e he
  have h3 : oLoad X.c h t (e.get und a) = some v := by
   have h2 : val h (oLoad X.c h t (e.get und a)) = some (.v v h) := h2
   cases q : oLoad X.c h t (e.get und a) with
   | none => rw [q] at h2; cases h2
   | some x => rw [q] at h2; cases h2; rfl
  unfold resA at h1 ⊢
  simp only [h3, h1]
theorem Go.retFc {X : Cx} {sz : Nat} {rd : Option Nat} {k : List It} {L : List (Nat × AV)} {h : Heap} {m : List Nat} {res : List ResultVar} {v : AV} (vs : List AV) {h' : Heap} (hl : leave h m = some h') (hr : ResH X L h' res vs) (hv : one vs = v) (hd : datB v = true) : Go X sz rd (.code .ret :: k) L h m (Fin X.c res v) :=
 Go.ret fun e he => ⟨.inr rfl, h', vs, hl, resH_ok he hr, hv, hd⟩
end Go.Px
end
section
namespace Go.Px
section
variable {X : Cx} {tb : List (Nat × TE)} (E : Env X.c tb) {o : Oper} {L : List (Nat × AV)} {h : Heap}
theorem TOk.ar {c : Ctx} {t n el : Nat} {e : TE} (h : TOk c t e) (k : e.k = .arr n el) : c.under t = some (.array n el) := by
 obtain ⟨d, h1, h2⟩ := h.kd
 rw [k] at h2
 cases d <;> simp only [tkOf] at h2 <;> first | (cases h2; done) | (cases h2; exact h1)
include E in
theorem Hop.buildA {t n el : Nat} {ps : Array (Nat × Operand)} {vals : List (Nat × AV)} {e ee : TE} {z cs : List AV} (ho : o.op = .build t ps) (hps : partsL L ps.toList = some vals) (ht : lkT tb t = some e) (hk : e.k = .arr n el) (hel : lkT tb el = some ee) (hz : e.z = .agg z) (hf : fillA (fun i => some (i * ee.s, ee.s)) vals z = some cs) :
  Hop X L h o (.agg cs) h := fun e' he => by
 have h1 := (E.t t e ht).ar hk
 have h2 := (E.t el ee hel).size
 have h3 := (E.t t e ht).z
 rw [ho]; simp only [opA, parts]
 rw [partsL_ok he hps]
 simp only [oBuild, h3, hz, h1, h2, hf, val]
include E in
theorem Hop.aidx {α : Type} [Inhabited α] {t n el z : Nat} {x i : Operand} {enc : α → List AV} {l : List α} {kk : IntKind} {a : Int} {e ee : TE} (ho : o.op = .index t x i) (hx : evL L x = some (.agg (l.flatMap enc))) (hi : evL L i = some (.int kk a)) (ht : lkT tb t = some e) (hk : e.k = .arr n el) (hel : lkT tb el = some ee) (hag : ee.k.isAgg = true) (hz : Nat.beq ee.s z = true) (henc : ∀ a, (enc a).length = z) (hn : l.length = n) (hr : 0 ≤ a ∧ a < n) :
  Hop X L h o (.agg (enc (l.getD a.toNat default))) h := fun e' he => by
 have h1 := (E.t t e ht).ar hk
 have h2 := (E.t el ee hel).size
 have h3 := (E.t el ee hel).agg
 have hz' := beqT hz
 rw [ho]; simp only [opA]; rw [he.ev hx, he.ev hi]
 simp only [oIndex, h1, inRange_of hr, h2, partA, h3, hag, val, hz']
 rw [flat_at henc default l a.toNat (by omega)]
include E in
theorem Hop.lenH {x : Operand} {t el id off n z : Nat} {cap : Option Nat} {cl : Call} {e : TE} (ho : o.op = .call cl) (hc : cl.callee = .builtin .len) (ha : cl.args.toList = [x]) (hts : nth1 cl.argTypes.toList 0 = some t) (hx : evL L x = some (.sl id off n cap z)) (ht : lkT tb t = some e) (hk : e.k = .slice el) :
  Hop X L h o (.int .i64 (n : Int)) h := len_op ho hc ha hts hx (by simp only [oLen, (E.t t e ht).sl hk]; rfl)
end
end Go.Px
end
section
namespace Go.Px
noncomputable def badH : Heap := (bare 0).put 0 (.arr 0 0 0 [])
theorem badH_no {X : Cx} {ρ : Map} {w : World} (p : PI X ρ badH w) : False := by
 have := p.wf.fresh 0 (Nat.le_refl _)
 rw [show badH.get 0 = .arr 0 0 0 [] by unfold badH; rw [Heap.get_put, if_pos rfl]] at this
 cases this
def vacK : List It → Bool
 | .code _ :: _ => true
 | .lp _ :: _ => true
 | .blk _ :: k => vacK k
 | [] => false
theorem runK_bad {X : Cx} {sz : Nat} {rd : Option Nat} {Q : Post} {e : T AV} {m : List Nat} : ∀ {k : List It}, vacK k = true → RunK X sz rd k Q .normal ⟨e, badH, m⟩
 | .code c :: k, _ => fun ro ρ w a Q' h1 h2 h3 h4 h5 => (badH_no h2).elim
 | .lp c :: k, _ => fun ro ρ w a Q' h1 h2 h3 h4 h5 => (badH_no h2).elim
 | .blk id :: k, h => runK_bad (k := k) h
 | [], h => by cases h
theorem Go.bad {X : Cx} {sz : Nat} {rd : Option Nat} {k : List It} {L : List (Nat × AV)} {m : List Nat} {Q : Post} (hk : vacK k = true) : Go X sz rd k L badH m Q := ⟨fun e he => runK_bad hk⟩
noncomputable def HP (P : Nat → Prop) (H : Nat → Heap) (j : Nat) : Heap := bif bd (P j) then H j else badH
theorem HP_t {P : Nat → Prop} {H : Nat → Heap} {j : Nat} (h : P j) : HP P H j = H j := by unfold HP; rw [bd_of h]; rfl
theorem HP_f {P : Nat → Prop} {H : Nat → Heap} {j : Nat} (h : ¬ P j) : HP P H j = badH := by unfold HP; rw [bd_no h]; rfl
theorem Go.rangeP {X : Cx} {tb : List (Nat × TE)} (E : Env X.c tb) {sz : Nat} {k : List It} {L : List (Nat × AV)} {h : Heap} {m : List Nat} {Q : Post} (n : Nat) {f : Operand} {ps : Array Tmp} {assign body : Code} {g : FuncId} {cap : List AV} {items : List (List AV)} (hn : h.nxt = n) (hfv : evL L f = some (.fn (.func g) [] cap)) (hdat : datsB cap = true) (hk : KIt X.c g cap items) (hon : onceB L = true)
  (P : Nat → Prop) (H : Nat → Heap) (p0 : P 0) (h0 : ∀ b, ChgE (XH X L n m b) (newAt n h (.dfr true)) (H 0)) (hps : ∀ (j : Nat) (v : List AV), items[j]? = some v → Nat.beq ps.toList.length v.length = true) (hps2 : (ps.toList.all fun p => Nat.ble (p + 1) sz) = true)
  (hbody : ∀ (j : Nat) (v : List AV), items[j]? = some v → P j → ∀ b, Go (XH X L n m b) sz none [.code assign] (setL ps.toList v L) (H j) [] (QA X sz k L n m Q (HP P H (j + 1)) body)) (hv : vacK k = true)
  (nx : P items.length → Go X sz none k L (H items.length) (n :: m) Q) (hro : X.ro = none := by rfl) (hgn : X.g = none ∨ ∃ t z q l, h.get 0 = .arr t z q l := by first | exact .inl rfl | exact .inr ⟨_, _, _, _, rfl⟩) :
  Go X sz none (.code (.rangeFunc f ps assign body) :: k) L h m Q := by
 refine Go.rangeK E n hn hfv hdat hk hon (HP P H) (fun b => by rw [HP_t p0]; exact h0 b) hps hps2 (fun j v hj b => ?_) ?_ hro hgn
 ·by_cases q : P j
  ·rw [HP_t (H := H) q]; exact hbody j v hj q b
  ·rw [HP_f (H := H) q]; exact Go.bad rfl
 ·by_cases q : P items.length
  ·rw [HP_t (H := H) q]; exact nx q
  ·rw [HP_f (H := H) q]; exact Go.bad hv
/-! ## ways that meet again -/
def Mid (L' : List (Nat × AV)) (h' : Heap) (m : List Nat) : Post := fun x s => x = .normal ∧ ∃ e, s = ⟨e, h', m⟩ ∧ Has e L'
theorem Go.mid {X : Cx} {sz : Nat} {rd : Option Nat} {k : List It} {L : List (Nat × AV)} {h : Heap} {m : List Nat} {Q : Post} {c : Code} (L' : List (Nat × AV)) (h' : Heap) (n1 : Go X sz rd [.code c] L h m (Mid L' h' m)) (n2 : Go X sz rd k L' h' m Q) : Go X sz rd (.code c :: k) L h m Q := ⟨fun e he =>
 (show Tri X sz rd c ⟨e, h, m⟩ (Mid L' h' m) from n1.run e he).mono fun x s' q => by
  obtain ⟨rfl, e', rfl, he'⟩ := q
  exact n2.run e' he'⟩
theorem Go.midE {X : Cx} {sz : Nat} {rd : Option Nat} {L L' : List (Nat × AV)} {h : Heap} {m : List Nat} (hs : SubL L L') : Go X sz rd [] L h m (Mid L' h m) := Go.nil fun e he => ⟨rfl, e, rfl, he.sub hs⟩
end Go.Px
end
section
namespace Go.Px
open Go.Deep Go.ChangeShapes Go.WideShapes
theorem read_sliceB {H : Type} {enc : TypeId × Value → H} {P : Program} {W : World} {α : Type} [Inhabited α] {en : α → List AV} {z : Nat} (hz : 0 < z) (hen : ∀ a, (en a).length = z) {t e : TypeId} (ht : P.underlying t = some (.slice e)) (hc : P.cellsOf e = z) {Q : α → DataW H → Prop} {B : DataW H → Prop}
  (hel : ∀ n cs y, B y.1 → DataW.trod enc P W 0 (fun _ => true) true n e cs = some y → ∃ x, VRs (fzm (held0 W)) (en x) cs ∧ Q x y.1)
  {n : Nat} {v : Value} {y : DataW H × List MemPlace} (hB : ∀ els sp, y.1 = .slice els sp → ∀ d ∈ els, B d) (h : DataW.trod enc P W 0 (fun _ => true) true n t [v] = some y) :
  ∃ l : List α, VR (fzm (held0 W)) (dsl z en l) v ∧ ((l = [] ∧ y.1 = .nil) ∨ ∃ els sp, y.1 = .slice els sp ∧ els.length = l.length ∧ ∀ i, i < l.length → ∃ d, els[i]? = some d ∧ Q (l.getD i default) d) := by
 rcases open_slice ht h with ⟨hv, rfl⟩ | ⟨a, len, cap, m, k, D, Pl, hv, hb, hl, hm, hmm, rfl, hx⟩
 ·have hv : v = .slice none 0 0 := by simpa using hv
  subst hv
  exact ⟨[], by simp [dsl, VR], .inl ⟨rfl, rfl⟩⟩
 ·have hv : v = .slice (some a) len cap := by simpa using hv
  subst hv
  rw [hc] at hx
  have hlm : len ≤ m := by rw [hmm]; split <;> omega
  obtain ⟨f, hf⟩ := choose_lt (α := α) (n := len) (p := fun i x => ∃ cs, W.cells? 0 (a.add (i * z)) z = some cs ∧ VRs (fzm (held0 W)) (en x) cs ∧ Q x (D i)) (fun i hi => by
   obtain ⟨cs', h1, h2⟩ := hx i (by omega)
   obtain ⟨x, x1, x2⟩ := hel _ _ _ (hB _ _ rfl _ (List.mem_map.2 ⟨i, List.mem_range.2 hi, rfl⟩)) h2
   exact ⟨x, cs', h1, x1, x2⟩)
  have hlen : ((List.range len).map f).length = len := by simp
  refine ⟨(List.range len).map f, ?_, .inr ⟨_, _, rfl, by simp, fun i hi => ?_⟩⟩
  ·unfold dsl
   rw [hlen]
   simp only [VR]
   refine ⟨by rw [flat_len hen, hlen], ?_⟩
   by_cases h0 : len = 0
   ·exact .inl ⟨h0, .inr ⟨a, cap, by rw [h0]⟩⟩
   ·right
    obtain ⟨B, o, spot⟩ := a
    have hspot : spot = none := by
     obtain ⟨cs, c1, c2, _⟩ := hf 0 (by omega)
     obtain ⟨_, q2, q3⟩ := World.cells?_some c1
     have q4 := q3 0 hz
     rw [List.getElem?_eq_getElem (by omega)] at q4
     simpa [Addr.add] using World.cell?_spot q4
    subst hspot
    refine ⟨B, o, cap, ((held0 W B).drop o).take (len * z), rfl, hl, ?_, fun j x hj => ?_⟩
    ·have key : ∀ k, k ≤ len → VRs (fzm (held0 W)) (((List.range k).map f).flatMap en) (((held0 W B).drop o).take (k * z)) := by
      intro k
      induction k with
      | zero => intro _; simp [VRs]
      | succ k ih =>
       intro hk
       have h1 := ih (by omega)
       obtain ⟨cs, c1, c2, _⟩ := hf k (by omega)
       obtain ⟨_, q2, q3⟩ := World.cells?_some c1
       have e : ((held0 W B).drop o).take ((k + 1) * z) = ((held0 W B).drop o).take (k * z) ++ cs := by
        rw [Nat.succ_mul, List.take_add]
        congr 1
        apply List.ext_getElem?
        intro r
        rw [List.drop_drop, List.getElem?_take]
        by_cases hr : r < z
        ·rw [if_pos hr, List.getElem?_drop]
         have q4 := q3 r hr
         rw [List.getElem?_eq_getElem (show r < cs.length by omega)] at q4 ⊢
         rw [add_plain, add_plain] at q4
         have := held0_at.2 q4
         rw [← this]
        ·rw [if_neg hr, List.getElem?_eq_none (by omega)]
       rw [List.range_succ, List.map_append, List.flatMap_append, e]
       refine h1.append ?_
       simpa using c2
     exact key len (Nat.le_refl _)
    ·rw [List.getElem?_take] at hj
     split at hj
     ·rw [List.getElem?_drop] at hj
      exact hj
     ·cases hj
  ·have hi' : i < len := by omega
   obtain ⟨cs, _, _, q⟩ := hf i hi'
   refine ⟨D i, by simp [hi'], ?_⟩
   rw [List.getD_eq_getElem?_getD]
   simpa [hi'] using q
end Go.Px
end
section
namespace Go.Px
/-! ## numbers -/
theorem wr_u8m (a : Int) : wr .u8 a = a % 256 := by
 cases a with
 | ofNat n => show Int.ofNat (n % 256) = _; simp
 | negSucc n => show Int.ofNat (256 - 1 - n % 256) = _; rw [Int.negSucc_eq]; simp only [Int.ofNat_eq_natCast]; omega
section
variable {X : Cx} {tb : List (Nat × TE)} (E : Env X.c tb) {o : Oper} {L : List (Nat × AV)} {h : Heap}
theorem opA_shift {x y : Operand} {op : BinOp} {t u : Nat} {kk kj : IntKind} {a b : Int} {v : AV} (ho : o.op = .binOp op t x y u) (hx : evL L x = some (.int kk a)) (hy : evL L y = some (.int kj b)) (hs : op = .shl ∨ op = .shr) (hv : shiftOp op kk a b = some v) : Hop X L h o v h := fun e he => by
 rw [ho]; simp only [opA]; rw [he.ev hx, he.ev hy]
 have : oBinX X.c op t (constB x y) (.int kk a) (.int kj b) = shiftOp op kk a b := by
  unfold oBinX oBin
  rcases hs with rfl | rfl <;> simp only []
 rw [this, hv]; rfl
include E in
theorem Hop.convU8 {s t : Nat} {x : Operand} {k1 : IntKind} {a : Int} {es e : TE} (ho : o.op = .convert s t x) (hx : evL L x = some (.int k1 a)) (hs : lkT tb s = some es) (ht : lkT tb t = some e) (hk : e.k = .int .u8) : Hop X L h o (.int .u8 (a % 256)) h := fun e' he => by
 obtain ⟨d, h1, _⟩ := (E.t s es hs).kd
 have h2 := (E.t t e ht).it hk
 rw [ho]; simp only [opA]; rw [he.ev hx]
 simp only [oConvert, h1, h2, wr_u8m, valH]
/-! ## cuts, texts -/
theorem bytesA_enc : ∀ l : List UInt8, bytesA (l.flatMap encU) = some (l.map UInt8.toNat)
 | [] => rfl
 | c :: l => by
  have ih := bytesA_enc l
  show byte1 (.int .u8 (c.toNat : Int)) (bytesA (l.flatMap encU)) = _
  rw [ih]
  have := c.toNat_lt
  show byte1 (.int .u8 (Int.ofNat c.toNat)) _ = _
  unfold byte1
  simp only []
  first
   | rfl
   | (rw [show Nat.ble (c.toNat + 1) 256 = true from Nat.ble_eq_true_of_le (by omega)]; rfl)
include E in
theorem Hop.str {s t el : Nat} {x : Operand} {l : List UInt8} {es e ee : TE} (ho : o.op = .convert s t x) (hx : evL L x = some (dsl 1 encU l)) (hst : lkT tb s = some es) (hks : es.k = .slice el) (hel : lkT tb el = some ee) (hkel : ee.k = .int .u8) (ht : lkT tb t = some e) (hk : e.k = .str) : Hop X L h o (sA l) h := fun e' he => by
 have h1 := (E.t t e ht).st hk
 have h2 := (E.t s es hst).sl hks
 have h3 := (E.t el ee hel).it hkel
 rw [ho]; simp only [opA]; rw [he.ev hx]
 simp only [dsl, oConvert, h1, h2, h3, bytesA_enc, valH, Nat.beq_refl]; rfl
end
end Go.Px
end
section
namespace Go.Px
section
variable {X : Cx} {o : Oper} {L : List (Nat × AV)} {h : Heap}
theorem Hop.shr4 {x y : Operand} {t u : Nat} {kj : IntKind} {n : Nat} (ho : o.op = .binOp .shr t x y u) (hx : evL L x = some (.int .u8 (n : Int))) (hy : evL L y = some (.int kj 4)) : Hop X L h o (.int .u8 ((n / 16 : Nat) : Int)) h :=
 opA_shift ho hx hy (.inr rfl) (by
  show some (AV.int .u8 (Int.ofNat (n >>> 4))) = _
  rw [Nat.shiftRight_eq_div_pow]; rfl)
theorem Hop.and15 {x y : Operand} {t u : Nat} {n : Nat} (ho : o.op = .binOp .and t x y u) (hx : evL L x = some (.int .u8 (n : Int))) (hy : evL L y = some (.int .u8 15)) (hn : n < 256) : Hop X L h o (.int .u8 ((n % 16 : Nat) : Int)) h :=
 Hop.bin ho hx hy ⟨by simp, by simp⟩ (by
  have e1 : um .u8 (n : Int) = n := by show n % 256 = n; omega
  have e2 : um .u8 15 = 15 := rfl
  simp only [intOp, e1, e2]
  have e3 : Nat.land n 15 = n % 16 := by
   show n &&& 15 = n % 16
   exact Nat.and_two_pow_sub_one_eq_mod n 4
  rw [e3, wr_u8m]
  refine congrArg (fun z => some (AV.int .u8 z)) ?_
  simp only [Int.ofNat_eq_natCast]; omega)
theorem Hop.catS {x y : Operand} {t u : Nat} {a b : List UInt8} (ho : o.op = .binOp .add t x y u) (hx : evL L x = some (sA a)) (hy : evL L y = some (sA b)) (hr : a.length + b.length ≤ 1000000000) : Hop X L h o (sA (a ++ b)) h := fun e' he => by
 rw [ho]; simp only [opA]; rw [he.ev hx, he.ev hy]
 have : Nat.ble (a.length + b.length) 1000000000 = true := Nat.ble_eq_true_of_le hr
 simp only [sA, oBinX, oBin, strOp, List.length_map, this, val, List.map_append]
theorem Hop.cutS {tb : List (Nat × TE)} (E : Env X.c tb) {t : Nat} {x lo hi : Operand} {s : List UInt8} {kk kj : IntKind} {a b : Int} {e : TE} (ho : o.op = .slice t x (some lo) (some hi) none) (hx : evL L x = some (sA s)) (hlo : evL L lo = some (.int kk a)) (hhi : evL L hi = some (.int kj b)) (ht : lkT tb t = some e) (hk : e.k = .str) (hr : 0 ≤ a ∧ a ≤ b ∧ b ≤ s.length) : Hop X L h o (sA ((s.take b.toNat).drop a.toNat)) h := fun e' he => by
 have h1 := (E.t t e ht).st hk
 rw [ho]; simp only [opA, evo]; rw [he.ev hx, he.ev hlo, he.ev hhi]
 have : oSlice X.c t (sA s) (some (.int kk a)) (some (.int kj b)) none = some (sA ((s.take b.toNat).drop a.toNat)) := by
  simp only [oSlice, h1, sA, optInt, upTo_of (show 0 ≤ b ∧ b ≤ ((s.map UInt8.toNat).length : Nat) by rw [List.length_map]; omega), upTo_of (show 0 ≤ a ∧ a ≤ (b.toNat : Nat) by omega), List.map_drop, List.map_take]
 simp only [oSliceH, this, Px.val]
theorem Hop.negI {x : Operand} {t : Nat} {a : Int} (ho : o.op = .unOp .neg t x) (hx : evL L x = some (.int .i64 a)) (hr : -9223372036854775808 < a ∧ a ≤ 9223372036854775807) : Hop X L h o (.int .i64 (-a)) h := fun e he => by
 rw [ho]; simp only [opA]; rw [he.ev hx]
 simp only [oUn, Int.zero_sub, wr_i64 (show -9223372036854775808 ≤ -a ∧ -a < 9223372036854775808 by omega), val]
theorem Hop.convB {tb : List (Nat × TE)} (E : Env X.c tb) {s t : Nat} {x : Operand} {k1 : IntKind} {a : Int} {b : UInt8} {es e : TE} (ho : o.op = .convert s t x) (hx : evL L x = some (.int k1 a)) (hs : lkT tb s = some es) (ht : lkT tb t = some e) (hk : e.k = .int .u8) (hab : a % 256 = (b.toNat : Int)) : Hop X L h o (.int .u8 (b.toNat : Int)) h := by
 rw [← hab]; exact Hop.convU8 E ho hx hs ht hk
end
end Go.Px
end
section
namespace Go.Px
end Go.Px
end
section
namespace Go.Px
section
variable {X : Cx} {sz : Nat} {rd : Option Nat} {L : List (Nat × AV)} {h : Heap} {m : List Nat}
theorem row_at_n {t : TypeId} {cs : List AV} {j N : Nat} (hN : cs.length = N) (hj : j < N) : Row.get ⟨t, N, .leaf, cs, none⟩ j = cs.getD j .bad := by
 subst hN; exact row_at_i hj
theorem getD_set {cs : List AV} {i j : Nat} {v : AV} (hj : j < cs.length) : (cs.set i v).getD j .bad = if i = j then v else cs.getD j .bad := by
 rw [List.getD_eq_getElem?_getD, List.getElem?_set]
 by_cases e : i = j
 ·subst e; rw [if_pos rfl, if_pos hj, if_pos rfl]; rfl
 ·rw [if_neg e, if_neg e, List.getD_eq_getElem?_getD]
theorem Chg.tokCellJ (n0 id i : Nat) (ty z N : Nat) {t : TypeId} {cs : List AV} {u : AV} (hN : cs.length = N) (hi : i < N) (hci : cs.getD i .bad = u) (hn0 : h.nxt = n0) (hu : noRoom u = true) (hg : h.get id = .row ⟨t, N, .leaf, cs, none⟩) (hz : X.g = none ∨ Nat.ble 1 n0 = true := by first | exact .inl rfl | exact .inr rfl) : Chg X sz rd L h L ((newAt n0 h (.arr ty z 0 [])).put id (.row ⟨t, N, .leaf, cs.set i (.own n0 0 z), none⟩)) m := fun ro ρ w e a h1 p h3 he h4 => by
 rw [← new_at hn0]
 subst hn0
 have hlt : id < h.nxt := by
  rcases Nat.lt_or_ge id h.nxt with q | q
  ·exact q
  ·rw [p.wf.fresh id q] at hg; cases hg
 have hcell : ∀ B M, ρ id = some (B, M) → ∃ x, w.cell? ⟨B, i, none⟩ = some x ∧ VR ρ u x := fun B M e => by
  have := p.hr.ok id B M e (by unfold Heap.ok; rw [hg]; simp only []; rw [Heap.row_of hg]; rfl)
  rw [hg] at this
  have ro : RowOk ρ ⟨t, N, .leaf, cs, none⟩ B M w := this
  obtain ⟨x, x1, x2⟩ := ro.2.2.2 i hi
  rw [row_at_n hN hi, hci] at x2
  exact ⟨x, x1, x2⟩
 obtain ⟨v0, a0, hv0, hall⟩ : ∃ v0 a0, v0 = Value.slice a0 0 0 ∧ ∀ B M, ρ id = some (B, M) → w.cell? ⟨B, i, none⟩ = some v0 := by
  cases hid : ρ id with
  | none => exact ⟨_, none, rfl, fun B M e => by cases e⟩
  | some y =>
   obtain ⟨B, M⟩ := y
   obtain ⟨x, x1, x2⟩ := hcell B M hid
   obtain ⟨a, ha⟩ := noRoom_at hu x2
   exact ⟨x, a, ha, fun B' M' e => by cases e; exact x1⟩
 obtain ⟨ρ', p', hs, v1, hm, _⟩ := p.tokV ty z hv0 hz
 have hne : id ≠ h.nxt := by omega
 have hg' : (h.new (.arr ty z 0 [])).get id = .row ⟨t, N, .leaf, cs, none⟩ := by rw [Heap.get_new, if_neg hne]; exact hg
 refine ⟨ρ', e, h1.mono hs, p'.cellV hg' rfl rfl rfl rfl (fun B M e1 j v hj hc q => ?_), h3.mono hs, he, h4.mono hs⟩
 have hj : j < N := hj
 rw [row_at_n hN hj] at q
 rw [row_at_n (by rw [List.length_set]; exact hN) hj, getD_set (by omega)]
 by_cases eij : i = j
 ·subst eij
  rw [if_pos rfl]
  have e2 : ρ id = some (B, M) := by
   have : ρ'.m id = some (B, M) := e1
   rw [hm] at this; exact this
  rw [hall B M e2] at hc
  cases hc
  simp only [VR]
  exact ⟨v1, .inl ⟨trivial, _, hv0⟩⟩
 ·rw [if_neg eij]; exact q
theorem Chg.cellFrzJ (id k i N : Nat) {t ty : TypeId} {z n : Nat} {cs l : List AV} (hN : cs.length = N) (hij : i < N) (hci : cs.getD i .bad = .own k n z) (hg : h.get id = .row ⟨t, N, .leaf, cs, none⟩) (hk : h.get k = .arr ty z n l) (hi : HInd k h) (hL : indL k L = true) (hm : (m.all fun i => !Nat.beq i k) = true) (hrd : rdNot k rd = true) (hG : indsB k X.gv = true := by rfl) :
  Chg X sz rd L h L ((h.put k .none).put id (.row ⟨t, N, .leaf, cs.set i (.rsl n z l), none⟩)) m := fun ro ρ w e a h1 p h3 he h4 => by
 obtain ⟨ρ', p', sx, m2, f4, fV⟩ := p.frzArr hk hi hG
 have hne : id ≠ k := fun q => by subst q; rw [hg] at hk; cases hk
 have hg' : (h.put k .none).get id = .row ⟨t, N, .leaf, cs, none⟩ := by rw [Heap.get_put, if_neg hne]; exact hg
 have p2 := p'.cell (r' := ⟨t, N, .leaf, cs.set i (.rsl n z l), none⟩) hg' rfl rfl rfl rfl (fun j v hj q => by
  have hj : j < N := hj
  rw [row_at_n hN hj] at q
  rw [row_at_n (by rw [List.length_set]; exact hN) hj, getD_set (by omega)]
  by_cases eij : i = j
  ·subst eij
   rw [if_pos rfl]
   rw [hci] at q
   refine f4 v ?_
   simp only [VR] at q ⊢
   rw [fV] at q; exact q
  ·rw [if_neg eij]; exact q)
 obtain ⟨e', he', er'⟩ := known_env (σ := ρ') (L := L) (tm := a.tmps) (sz := sz) h3.1 (fun s v q => by
  have := h3.2 s
  rw [he s v q] at this
  exact ind_ok sx v (indL_at hL s v q) this)
 obtain ⟨D1, h5, h6⟩ := h4
 exact ⟨ρ', e', rox_out m2 hrd h1, p2, er', he', ⟨D1, mrx_out (X := X) m2 hm h5, h6⟩⟩
end
end Go.Px
end
section
namespace Go.Px
section
variable {X : Cx} {o : Oper} {L : List (Nat × AV)} {h : Heap}
theorem Hop.gtrF {x y : Operand} {t u : Nat} {kk : IntKind} {a b : Int} (ho : o.op = .binOp .gtr t x y u) (hx : evL L x = some (.int kk a)) (hy : evL L y = some (.int kk b)) (hr : ¬ b < a) : Hop X L h o (.bool false) h := by
 have := Hop.gtr (X := X) (h := h) ho hx hy; rwa [bd_no hr] at this
theorem Hop.gtrT {x y : Operand} {t u : Nat} {kk : IntKind} {a b : Int} (ho : o.op = .binOp .gtr t x y u) (hx : evL L x = some (.int kk a)) (hy : evL L y = some (.int kk b)) (hr : b < a) : Hop X L h o (.bool true) h := by
 have := Hop.gtr (X := X) (h := h) ho hx hy; rwa [bd_of hr] at this
theorem Hop.eqlF {x y : Operand} {t u : Nat} {kk : IntKind} {a b : Int} (ho : o.op = .binOp .eql t x y u) (hx : evL L x = some (.int kk a)) (hy : evL L y = some (.int kk b)) (hr : ¬ a = b) : Hop X L h o (.bool false) h := by
 have := Hop.eql (X := X) (h := h) ho hx hy; rwa [bd_no hr] at this
theorem Hop.eqlT {x y : Operand} {t u : Nat} {kk : IntKind} {a b : Int} (ho : o.op = .binOp .eql t x y u) (hx : evL L x = some (.int kk a)) (hy : evL L y = some (.int kk b)) (hr : a = b) : Hop X L h o (.bool true) h := by
 have := Hop.eql (X := X) (h := h) ho hx hy; rwa [bd_of hr] at this
theorem Hop.neqF {x y : Operand} {t u : Nat} {kk : IntKind} {a b : Int} (ho : o.op = .binOp .neq t x y u) (hx : evL L x = some (.int kk a)) (hy : evL L y = some (.int kk b)) (hr : a = b) : Hop X L h o (.bool false) h := by
 have := Hop.neq (X := X) (h := h) ho hx hy; rwa [bd_of hr] at this
theorem Hop.lssF {x y : Operand} {t u : Nat} {kk : IntKind} {a b : Int} (ho : o.op = .binOp .lss t x y u) (hx : evL L x = some (.int kk a)) (hy : evL L y = some (.int kk b)) (hr : ¬ a < b) : Hop X L h o (.bool false) h := by
 have := Hop.lss (X := X) (h := h) ho hx hy; rwa [bd_no hr] at this
theorem Hop.neSF {t u : Nat} {x y : Operand} {a b : List UInt8} (ho : o.op = .binOp .neq t x y u) (hx : evL L x = some (sA a)) (hy : evL L y = some (sA b)) (hr : a = b) : Hop X L h o (.bool false) h := by
 have := Hop.neS (X := X) (h := h) ho hx hy; rwa [bd_of hr] at this
end
end Go.Px
end
section
namespace Go.Px
theorem dat_at : ∀ (l : List AV) (i : Nat), datsB l = true → i < l.length → datB (l.getD i .bad) = true := by
 intro l
 induction l with
 | nil => intro i _ hi; simp at hi
 | cons a l ih =>
  intro i hl hi
  simp only [datsB] at hl
  split at hl
  ·rename_i ha
   cases i with
   | zero => exact ha
   | succ i => exact ih i hl (by simpa using hi)
  ·cases hl
section
variable {X : Cx} {tb : List (Nat × TE)} (E : Env X.c tb) {sz : Nat} {rd : Option Nat} {all : Array Oper} {o : Oper} {rest : List Oper} {k : List It} {L : List (Nat × AV)} {h : Heap} {m : List Nat} {Q : Post}
include E
theorem Ops.bsliceTok {N d t el len z : Nat} {ps : Array (Nat × Operand)} {vals : List (Nat × AV)} {e ee : TE} {cs zc : List AV} (hd : o.dst = some d) (hs : Nat.ble (d + 1) sz = true) (hw : Want all L o true) (ho : o.op = .buildSlice t len ps) (hps : partsL L ps.toList = some vals) (ht : lkT tb t = some e) (hk : e.k = .slice el) (hel : lkT tb el = some ee) (hl0 : Nat.beq len 0 = false)
  (hzc : (match ee.z with | .bad => none | v => some v.cells) = some zc) (hsz : Nat.beq ee.s zc.length = true) (hez : Nat.beq ee.s z = true) (hz0 : Nat.beq z 0 = false) (h6 : Nat.ble (len * ee.s) 1000000 = true) (hf : fillA (fun i => some (i * ee.s, ee.s)) vals (reps len zc) = some cs) (hdt : datsB cs = true) (hcl : Nat.beq cs.length (len * z) = true)
  (hg : h.get N = .arr el z 0 []) (hi : HInd N h) (hL : indL N L = true) (hm : (m.all fun i => !Nat.beq i N) = true) (hrd : rdNot N rd = true) (hG : indsB N X.gv = true)
  (nx : Ops X sz rd all rest k ((d, .own N len z) :: L) (h.put N (.arr el z len cs)) m Q) : Ops X sz rd all (o :: rest) k L h m Q := ⟨fun e0 he => by
 refine TriOps.cons (hw e0 he) (K := fun s' => RunK X sz rd k Q .normal s') ?_
 intro ro ρ w a next Q' h1 p h3 h4 h5
 refine ⟨fun _ _ => trivial, ?_⟩
 rw [show (wideR ro).round = ro from rfl, Oper.semAt_eq ro a.eval o (by rw [ho]; intro d q; cases q)]
 obtain ⟨ie, i1, i2, i3⟩ := (E.t el ee hel).si
 have hez := beqT hez
 have hz0 := beqN hz0
 have hcl := beqT hcl
 have hl0 := beqN hl0
 have hsz' := beqT hsz
 have hzc' : X.c.zcells el = some zc := by
  unfold Ctx.zcells
  rw [(E.t el ee hel).z]
  cases hv : ee.z <;> rw [hv] at hzc <;> first | (cases hzc; done) | exact hzc
 obtain ⟨it, Z, z1, z2, z3, z4⟩ := zcells_ok E.k hzc' ρ
 rw [i1] at z4; cases z4
 have hu := under_eq E.k ((E.t t e ht).sl hk)
 have hp := parts_ok h3 ps
 rw [show parts e0 ps = vals from partsL_ok he hps] at hp
 have hmade := made_ok z3 len (by rw [← hsz', hez]; exact hz0)
 rw [← hsz'] at hmade
 have hnz : len * ee.s ≠ 0 := Nat.mul_ne_zero hl0 (by rw [hez]; exact hz0)
 obtain ⟨R, r1, r2⟩ := fill_ok vals (ps.map fun (i, x) => (i, a.eval x)).toList _ _ cs hp hmade hf
 have hrun0 := run_buildSlice (P := X.c.P) w t el len (ps.map fun (i, x) => (i, a.eval x)) R ie Z hu z1 z2 (by rw [i2]; have := bleT h6; omega) (by rw [i2]; exact hnz) (by rw [i2]; exact r1)
 have hlen := r2.length
 have gr := newRow_ok p.hr p.wf (p.fr.1 _ (Nat.le_refl _)) el cs.length cs R (by simpa using whole r2 el) (by simpa using hlen)
 have hget : (newRow h el cs.length .leaf cs).get h.nxt = .row ⟨el, cs.length, .leaf, cs, none⟩ := by show (h.new _).get _ = _; rw [Heap.get_new, if_pos rfl]
 have hro := gr.hr.ok h.nxt _ _ (upd_same _ _ _) (by unfold Heap.ok; rw [hget]; simp only []; rw [Heap.row_of hget]; rfl)
 rw [hget] at hro
 have hro : RowOk _ ⟨el, cs.length, .leaf, cs, none⟩ _ _ _ := hro
 have hRs : R.size = cs.length := by simpa using hlen.symm
 simp only [hRs] at hro
 have hrow : RowOk ρ.d ⟨el, len * z, .leaf, cs, none⟩ w.heap.size cs.length (w.alloc (.cells R el)) := by
  refine ⟨hro.1, by show len * z ≤ _; rw [hcl]; exact Nat.le_refl _, hro.2.2.1, fun j hj => ?_⟩
  have hj : j < cs.length := by rw [hcl]; exact hj
  obtain ⟨v, v1, v2⟩ := hro.2.2.2 j hj
  refine ⟨v, v1, ?_⟩
  have e1 := row_at_i (t := el) (cs := cs) (j := j) hj
  rw [e1] at v2
  have e2 : Row.get ⟨el, len * z, .leaf, cs, none⟩ j = cs.getD j .bad := by
   have := row_at_i (t := el) (cs := cs) (j := j) hj
   rw [hcl] at this
   exact this
  rw [e2]
  exact dat_ok (ρ := upd ρ h.nxt (w.heap.size, cs.length)) _ (dat_at cs j hdt hj) v2
 obtain ⟨ρ', r1', r2', r3'⟩ := p.setArr (w' := w.alloc (.cells R el)) (n' := len) (l' := cs) (B := w.heap.size) (C := len) hg hi hG (by omega) hcl (Nat.le_refl len) (N := cs.length) hcl.symm hrow ⟨rfl, rfl, rfl, by rw [World.size_alloc]; omega⟩ (.inr ⟨rfl, World.size_alloc _ _, fun D hD => by
  show (w.heap.push _)[D]? = _
  rw [Array.getElem?_push, if_neg (by omega)]⟩)
 have hrun : (execOp a.eval o).run X.c.P w = .ok (.value (.slice (some ⟨w.heap.size, 0, none⟩) len len)) (w.alloc (.cells R el)) := by
  simp only [execOp, ho]
  simp [Sem.run_bind, hrun0]
 rw [hrun]
 obtain ⟨e', he', er'⟩ := known_env (σ := ρ') (L := L) (tm := a.tmps) (sz := sz) h3.1 (fun s v qq => by
  have := h3.2 s
  rw [he s v qq] at this
  exact ind_ok r2' v (indL_at hL s v qq) this)
 refine h5 (.own N len z) ⟨e', _, m⟩ _ _ ρ' ⟨e'.set und d (.own N len z), by rw [hd]; exact setD_some hs, nx.run _ (he'.set d _)⟩ ?_ r1' er' ?_ r3'
 ·cases rd with
  | none => exact h1
  | some r =>
   obtain ⟨B', N', q1, q2⟩ := h1
   exact ⟨B', N', r2'.m r _ (nb (show (!Nat.beq r N) = true from hrd)) q1, q2⟩
 ·have hmr : ∀ {m : List Nat} {D : List Deferred}, (m.all fun i => !Nat.beq i N) = true → MR ρ m D → MR ρ' m D := by
   intro m
   induction m with
   | nil => intro D _ q; exact q
   | cons d m ih =>
    intro D hh q
    simp only [List.all_cons, Bool.and_eq_true] at hh
    obtain ⟨B, N, r, q1, q2, q3⟩ := q
    exact ⟨B, N, r, r2'.m d _ (nb hh.1) q1, ih hh.2 q2, q3⟩
  obtain ⟨D1, h5, h6⟩ := h4
  exact ⟨D1, hmr hm h5, h6⟩⟩
theorem Ops.bsliceOwn (N : Nat) {d t el len z : Nat} {ps : Array (Nat × Operand)} {vals : List (Nat × AV)} {e ee : TE} {cs zc : List AV} (hd : o.dst = some d) (hs : Nat.ble (d + 1) sz = true) (hw : Want all L o true) (ho : o.op = .buildSlice t len ps) (hps : partsL L ps.toList = some vals) (ht : lkT tb t = some e) (hk : e.k = .slice el) (hel : lkT tb el = some ee) (hl0 : Nat.beq len 0 = false)
  (hN : h.nxt = N) (hzc : (match ee.z with | .bad => none | v => some v.cells) = some zc) (hsz : Nat.beq ee.s zc.length = true) (hez : Nat.beq ee.s z = true) (hz0 : Nat.beq z 0 = false) (h6 : Nat.ble (len * ee.s) 1000000 = true) (hf : fillA (fun i => some (i * ee.s, ee.s)) vals (reps len zc) = some cs) (hdt : datsB cs = true) (hcl : Nat.beq cs.length (len * z) = true)
  (hi : HInd N (newAt N h (.arr el z 0 []))) (hL : indL N L = true) (hm : (m.all fun i => !Nat.beq i N) = true) (hrd : rdNot N rd = true) (hG : indsB N X.gv = true)
  (nx : Ops X sz rd all rest k ((d, .own N len z) :: L) ((newAt N h (.arr el z 0 [])).put N (.arr el z len cs)) m Q) (hgz : X.g = none ∨ Nat.ble 1 N = true := by first | exact .inl rfl | exact .inr rfl) : Ops X sz rd all (o :: rest) k L h m Q :=
 Ops.change (Chg.tokNew N el z hN hgz) (Ops.bsliceTok E hd hs hw ho hps ht hk hel hl0 hzc hsz hez hz0 h6 hf hdt hcl (by subst hN; rw [← new_at rfl, Heap.get_new, if_pos rfl]) hi hL hm hrd hG nx)
end
theorem wk_refl {h : Heap} : ∀ l : List AV, wkA h l l
 | [] => trivial
 | a :: l => ⟨.inl rfl, wk_refl l⟩
theorem wk_eq {h : Heap} {l m : List AV} (e : l = m) : wkA h l m := e ▸ wk_refl l
end Go.Px
end
section
namespace Go.Px
theorem Hop.subE {X : Cx} {o : Oper} {L : List (Nat × AV)} {h : Heap} {x y : Operand} {t u : Nat} {a b c : Int} (ho : o.op = .binOp .sub t x y u) (hx : evL L x = some (.int .i64 a)) (hy : evL L y = some (.int .i64 b)) (hc : a - b = c) (hr : -9223372036854775808 ≤ c ∧ c < 9223372036854775808) : Hop X L h o (.int .i64 c) h := by
 subst hc; exact Hop.sub ho hx hy hr
theorem vrs_mono {ρ : Map} {a b : AV} {l m : List AV} (h1 : ∀ x, VR ρ a x → VR ρ b x) (h2 : ∀ L, VRs ρ l L → VRs ρ m L) (L : List Value) (h : VRs ρ (a :: l) L) : VRs ρ (b :: m) L := by
 simp only [VRs] at h ⊢
 obtain ⟨x, r, e1, e2, e3⟩ := h
 exact ⟨x, r, h1 x e1, h2 r e2, e3⟩
theorem vr_agg {ρ : Map} {l m : List AV} (h : ∀ L, VRs ρ l L → VRs ρ m L) (x : Value) (q : VR ρ (.agg l) x) : VR ρ (.agg m) x := by
 simp only [VR] at q ⊢
 obtain ⟨L, q1, q2⟩ := q
 exact ⟨L, h _ q1, q2⟩
theorem wkN {a b c d e f g : AV} (z : Nat) : ∀ (ρ : Map) (x : Value), VR ρ (.agg [a, b, c, d, e, .nilsl, f, g]) x → VR ρ (.agg [a, b, c, d, e, .rsl 0 z [], f, g]) x := fun ρ x h =>
 vr_agg (vrs_mono (fun _ h => h) (vrs_mono (fun _ h => h) (vrs_mono (fun _ h => h) (vrs_mono (fun _ h => h) (vrs_mono (fun _ h => h) (vrs_mono (weak_nil z ρ) fun _ h => h)))))) x h
section
variable {X : Cx} {tb : List (Nat × TE)} (E : Env X.c tb) {sz : Nat} {rd : Option Nat} {all : Array Oper} {o : Oper} {rest : List Oper} {k : List It} {L : List (Nat × AV)} {h : Heap} {m : List Nat} {Q : Post}
include E
theorem Ops.buildZ {d : Nat} {a b c e f g h' : AV} (z : Nat) (hd : o.dst = some d) (hs : Nat.ble (d + 1) sz = true) (hw : Want all L o true) (hop : Hop X L h o (.agg [a, b, c, e, f, .nilsl, g, h']) h) (nx : Ops X sz rd all rest k ((d, .agg [a, b, c, e, f, .rsl 0 z [], g, h']) :: (d, .agg [a, b, c, e, f, .nilsl, g, h']) :: L) h m Q) : Ops X sz rd all (o :: rest) k L h m Q :=
 Ops.val E hd hs hw hop (Ops.change (Chg.weak d (by unfold lkO; rw [Nat.beq_refl]) (wkN z)) nx)
end
end Go.Px
end
section
namespace Go.Px
theorem Hop.lssT {X : Cx} {o : Oper} {L : List (Nat × AV)} {h : Heap} {x y : Operand} {t u : Nat} {kk : IntKind} {a b : Int} (ho : o.op = .binOp .lss t x y u) (hx : evL L x = some (.int kk a)) (hy : evL L y = some (.int kk b)) (hr : a < b) : Hop X L h o (.bool true) h := by
 have := Hop.lss (X := X) (h := h) ho hx hy; rwa [bd_of hr] at this
end Go.Px
end
section
namespace Go.Px
def KOkW (c : Ctx) (W : World) (f : FuncId) (args : List AV) (v : AV) : Prop :=
 ∀ (F : Nat → List Value) (w : World) (A : List Value), ExtW W w → FzW F w → VRs (fzm F) args A →
  ∃ nx w1, (callFunc f A.toArray).run c.P w = .ok nx w1 ∧ NextOk c.P (fun z w' => ExtW w w' ∧ ∃ F', (∀ (b j : Nat) (x : Value), (F b)[j]? = some x → (F' b)[j]? = some x) ∧ (∀ b, b < w.heap.size → F' b = F b) ∧ FzW F' w' ∧ VR (fzm F') v z) nx w1
theorem KOkW.of {c : Ctx} (W : World) (k : CtxOk c) (hg0 : ∀ i r, c.g0.get i ≠ .gl r) {f : FuncId} {fn : Func} {body : Code} (hf : c.P.funcs[f]? = some fn) (hb : fn.body = some body) {args : List AV} {v : AV} (hlen : args.length ≤ fn.ntmps)
  (H : ∀ w F, ExtW W w → Go ⟨c, w, F, fun _ => False, none, none, [], [], []⟩ fn.ntmps none [.code body] (argsL args 0) hS [] (Fin c fn.results.toList v)) : KOkW c W f args v := by
 intro F w A hE hF hA
 have hnm : fn.name ≠ "runtime.NumGoroutine" := by simpa using k.names f fn hf
 refine ⟨.enter f A.toArray, w, by simp [callFunc, hf, hnm, hb, Sem.run], ?_⟩
 refine callsIn_of_wp_marks hf hb trivial ?_
 have hpi : PI ⟨c, w, F, fun _ => False, none, none, [], [], []⟩ (fzm F) hS w := by
  refine ⟨bare_hr 0 (fun i B N e => by cases e) hF, bare_wf 0, ⟨fun _ _ => rfl, fun i r e => absurd e (hg0 i r)⟩, fun _ _ _ => rfl, (fun i t z n l e => by cases e), ⟨Same.refl w, fun _ _ => rfl⟩, (fun i B N e => by cases e), fun _ _ _ e => e, fun _ _ => rfl, (by simp only [VRs]), (fun G q => by cases q)⟩
 have h := (H w F hE).run (T.put und args (env0 und fn.ntmps) 0) (argsL_has args _ 0)
 have ht : Tri ⟨c, w, F, fun _ => False, none, none, [], [], []⟩ fn.ntmps none body ⟨T.put und args (env0 und fn.ntmps) 0, hS, []⟩ (Fin c fn.results.toList v) := h
 refine ht none (fzm F) w _ _ rfl hpi (args_er hA hlen) ⟨[], rfl, rfl⟩ fun x s' a' w' ρ' ⟨hx, h', vs, q1, q2, q3, q4⟩ g1 g2 g3 g4 => ?_
 have hfin : LeavesInM Fence.wide 0 c.P fn a'.tmps (EndR fun z w' => ExtW w w' ∧ ∃ F', (∀ (b j : Nat) (x : Value), (F b)[j]? = some x → (F' b)[j]? = some x) ∧ (∀ b, b < w.heap.size → F' b = F b) ∧ FzW F' w' ∧ VR (fzm F') v z) a'.defers .returning w' := by
  refine leave_ok g2.hr g2.wf (g4.nil rfl) q1 fun w2 g => ?_
  have g5 := g2.good g (ArrKeep.leave q1)
  obtain ⟨z, z1, z2⟩ := results_ok k g5.hr g3 q2
  rw [q3] at z2
  exact ⟨z, z1, ⟨g5.ext.1, fun b hb => g5.ext.2 b ⟨hb, fun q => q⟩⟩, ρ'.F, g5.sub, fun b hb => g5.old b ⟨hb, fun q => q⟩, g5.hr.fz, dat_ok v q4 z2⟩
 rcases hx with rfl | rfl
 ·exact hfin
 ·exact hfin
section
variable {X : Cx} {tb : List (Nat × TE)} {sz : Nat} {rd : Option Nat} {all : Array Oper} {o : Oper} {rest : List Oper} {k : List It} {L : List (Nat × AV)} {h : Heap} {m : List Nat} {Q : Post}
end
/-! ## packages' variables as a heap -/
structure BaseOk (g0 : Heap) : Prop where
 wf : WF g0
 only : ∀ i, g0.get i = .none ∨ ∃ r, g0.get i = .gl r
end Go.Px
end
section
namespace Go.Px
structure LW (W : World) (X : Cx) : Prop where
 ext : ExtW W X.w0
 opn : ∀ b, X.opn b → W.heap.size ≤ b
theorem LW.now {W : World} {X : Cx} {ρ : Map} {h : Heap} {w : World} (l : LW W X) (p : PI X ρ h w) : ExtW W w := ⟨l.ext.1.trans p.ext.1, fun b hb =>
 (p.ext.2 b ⟨Nat.lt_of_lt_of_le hb l.ext.1.size, fun q => by have := l.opn b q; omega⟩).trans (l.ext.2 b hb)⟩
theorem LW.out {W : World} {X : Cx} (l : LW W X) {b : Nat} (h : ¬ X.shut b) : W.heap.size ≤ b := by
 refine Classical.byContradiction fun q => h ⟨Nat.lt_of_lt_of_le (by omega) l.ext.1.size, fun a => ?_⟩
 have := l.opn b a; omega
theorem LW.none {W : World} {c : Ctx} {w : World} {F : Nat → List Value} (hE : ExtW W w) : LW W ⟨c, w, F, fun _ => False, Option.none, Option.none, [], [], []⟩ := ⟨hE, fun _ q => q.elim⟩
section
variable {X : Cx} {tb : List (Nat × TE)} {sz : Nat} {rd : Option Nat} {all : Array Oper} {o : Oper} {rest : List Oper} {k : List It} {L : List (Nat × AV)} {h : Heap} {m : List Nat} {Q : Post}
theorem OpT.callX {s : St} (kc : CtxOk X.c) {W : World} (lw : LW W X) {o : Oper} {cl : Call} {f : Operand} {g : FuncId} {vs : List AV} {v : AV} {K : AV → St → Prop} (ho : o.op = .call cl) (hc : cl.callee = .value f) (hf : ev s.e f = .fn (.func g) [] [])
  (hv : cl.args.toList.map (ev s.e) = vs) (hd : datsB vs = true) (hk : KOkW X.c W g vs v) (hK : K v s) : OpT X sz rd o s K := fun ro ρ w a next Q' h1 h2 h3 h4 h5 => by
 refine ⟨fun _ _ => trivial, ?_⟩
 rw [show (wideR ro).round = ro from rfl, Oper.semAt_eq ro a.eval o (by rw [ho]; intro d q; cases q)]
 have hfv := ev_ok h3 f
 rw [hf] at hfv
 simp only [VR, VRs, FR] at hfv
 obtain ⟨f', F, C, e1, rfl, rfl, e4⟩ := hfv
 subst e1
 have hargs := evs_ok h3 cl.args.toList
 rw [hv] at hargs
 obtain ⟨nx, w1, q1, q2⟩ := hk ρ.F w (cl.args.toList.map a.eval) (lw.now h2) h2.hr.fz (dats_ok vs hd hargs)
 have hrun : (execOp a.eval o).run X.c.P w = .ok nx w1 := by
  rw [← q1]
  simp only [execOp, ho, resolve, hc, e4, Deferred.ofValue, Sem.run_bind, Sem.run_pure, Result.andThen_ok, invoke]
  congr 2
  apply Array.ext'; simp
 rw [hrun]
 refine uponIn_of_next q2 fun z w' ⟨x, F', f1, f2, f3, f4⟩ => ?_
 have hs : Sub ρ ⟨ρ.m, F', ρ.V⟩ := ⟨fun _ _ e => e, f1, fun _ _ _ e => e⟩
 refine h5 v s z w' ⟨ρ.m, F', ρ.V⟩ hK (h1.mono hs) (h2.frz x f1 f2 f3) (h3.mono hs) (h4.mono hs) ?_
 exact VR.mono (ρ := fzm F') (σ := ⟨ρ.m, F', ρ.V⟩) ⟨(fun _ _ e => by cases e), fun _ _ _ e => e, (fun _ _ _ e => by cases e)⟩ v f4
theorem Ops.callX (E : Env X.c tb) {W : World} {d : Nat} {v : AV} {cl : Call} {f : Operand} {g : FuncId} {vs : List AV} (lw : LW W X) (hd : o.dst = some d) (hs : Nat.ble (d + 1) sz = true) (hw : Want all L o true) (ho : o.op = .call cl) (hc : cl.callee = .value f) (hf : evL L f = some (.fn (.func g) [] []))
  (hv : evsL L cl.args.toList = some vs) (hk : KOkW X.c W g vs v) (hdt : datsB vs = true) (n : Ops X sz rd all rest k ((d, v) :: L) h m Q) : Ops X sz rd all (o :: rest) k L h m Q := ⟨fun e he =>
 TriOps.cons (hw e he) (OpT.callX E.k lw ho hc (he.ev hf) (he.evs hv) hdt hk ⟨e.set und d v, by rw [hd]; exact setD_some hs, n.run _ (he.set d v)⟩)⟩
end
structure KMW (c : Ctx) (W : World) (f : FuncId) (bs : List MB) (args : List AV) (v : AV) (bs' : List MB) : Prop where
 le : bs.length ≤ bs'.length
 lo : lowM bs.length bs = true
 la : lowsB bs.length args = true
 lm : lowM bs'.length bs' = true
 lv : lowB bs'.length v = true
 ev : evidB args bs 0 = true
 run : ∀ (ρ : Map) (w : World) (A gx : List Value), ExtW W w → (∀ b, opnOf ρ b → W.heap.size ≤ b) → PI ⟨c, w, ρ.F, opnOf ρ, none, none, [], ptrs bs 0, gx⟩ ρ (hq bs.length (bs.map MB.ab)) w → VRs ρ args A →
  ∃ nx w1, (callFunc f A.toArray).run c.P w = .ok nx w1 ∧ NextOk c.P (fun z w' => ∃ ρ', PI ⟨c, w, ρ.F, opnOf ρ, none, none, [], ptrs bs 0, gx⟩ ρ' (hq bs'.length (bs'.map MB.ab)) w' ∧ VR ρ' v z) nx w1
theorem KMW.of {c : Ctx} (W : World) (k : CtxOk c) (hg0 : ∀ i r, c.g0.get i ≠ .gl r) {f : FuncId} {fn : Func} {body : Code} (hf : c.P.funcs[f]? = some fn) (hb : fn.body = some body) {bs : List MB} {args : List AV} {v : AV} {bs' : List MB} {N : Nat} {ab : List AB} {gv : List AV} (hN : bs.length = N) (hA : bs.map MB.ab = ab) (hP : ptrs bs 0 = gv)
  (hlen : args.length ≤ fn.ntmps) (le : Nat.ble bs.length bs'.length = true) (lo : lowM bs.length bs = true) (la : lowsB bs.length args = true) (lm : lowM bs'.length bs' = true) (lv : lowB bs'.length v = true) (ev : evidB args bs 0 = true)
  (H : ∀ w F opn gx, LW W ⟨c, w, F, opn, none, none, [], gv, gx⟩ → Go ⟨c, w, F, opn, none, none, [], gv, gx⟩ fn.ntmps none [.code body] (argsL args 0) (hq N ab) [] (FinM c fn.results.toList v bs')) : KMW c W f bs args v bs' := by
 subst hN; subst hA; subst hP
 refine ⟨bleT le, lo, la, lm, lv, ev, fun ρ w A gx hE hop hpi hA => ?_⟩
 have hnm : fn.name ≠ "runtime.NumGoroutine" := by simpa using k.names f fn hf
 refine ⟨.enter f A.toArray, w, by simp [callFunc, hf, hnm, hb, Sem.run], ?_⟩
 refine callsIn_of_wp_marks hf hb trivial ?_
 have h := (H w ρ.F (opnOf ρ) gx ⟨hE, hop⟩).run (T.put und args (env0 und fn.ntmps) 0) (argsL_has args _ 0)
 have ht : Tri ⟨c, w, ρ.F, opnOf ρ, none, none, [], ptrs bs 0, gx⟩ fn.ntmps none body ⟨T.put und args (env0 und fn.ntmps) 0, hq bs.length (bs.map MB.ab), []⟩ (FinM c fn.results.toList v bs') := h
 refine ht none ρ w _ _ rfl hpi (args_er hA hlen) ⟨[], rfl, rfl⟩ fun x s' a' w' ρ' ⟨hx, h', vs, q1, q2, q3, q4, q5⟩ g1 g2 g3 g4 => ?_
 have hfin : LeavesInM Fence.wide 0 c.P fn a'.tmps (EndR fun z w' => ∃ ρ', PI ⟨c, w, ρ.F, opnOf ρ, none, none, [], ptrs bs 0, gx⟩ ρ' (hq bs'.length (bs'.map MB.ab)) w' ∧ VR ρ' v z) a'.defers .returning w' := by
  refine leave_ok g2.hr g2.wf (g4.nil rfl) q1 fun w2 g => ?_
  have g5 := g2.good g (ArrKeep.leave q1)
  obtain ⟨z, z1, z2⟩ := results_ok k g5.hr g3 q2
  rw [q3] at z2
  exact ⟨z, z1, _, g5.canon hg0 q4 lm (low_ptrs (by have := bleT le; omega)) rfl, low_ok v lv z2⟩
 rcases hx with rfl | rfl
 ·exact hfin
 ·exact hfin
section
variable {X : Cx} {tb : List (Nat × TE)} (E : Env X.c tb) {sz : Nat} {rd : Option Nat} {all : Array Oper} {o : Oper} {rest : List Oper} {k : List It} {L : List (Nat × AV)} {h : Heap} {m : List Nat} {Q : Post}
include E
theorem Ops.callMX {W : World} (lw : LW W X) (is : List Nat) (N : Nat) {cl : Call} {f : Operand} {g : FuncId} {first cap vs args : List AV} {v v' : AV} {bs bs' : List MB} {ab : List AB} {L' : List (Nat × AV)} (hw : Want all L o true) (ho : o.op = .call cl) (hc : cl.callee = .value f) (hfv : evL L f = some (.fn (.func g) first cap))
  (hv : evsL L cl.args.toList = some vs) (hk : KMW X.c W g bs args v bs') (hN : h.nxt = N) (hwk : wkA h (first ++ vs ++ cap) (rens (sg is N) args)) (hap : apart N is = true) (hb : BlksAt h (sg is N) is bs) (hI : HOk is (arrI is bs) (rowI is bs) h) (hL : cleanO (arrI is bs) (rowI is bs) L = some L') (hm : nins2 (arrI is bs) (rowI is bs) m = true)
  (hrd : (match rd with | some l => nin2 (arrI is bs) (rowI is bs) l | none => true) = true) (hv' : ren (sg is N) v = v') (hab : bs'.map (fun b => (b.ren (sg is N)).ab) = ab) {d : Nat} (hd : o.dst = some d) (hs : Nat.ble (d + 1) sz = true) (n : Ops X sz rd all rest k ((d, v') :: L') (mixN N h is ab) m Q)
  (hG : oksB (arrI is bs) (rowI is bs) X.gv = true := by rfl) (hgz : X.g = none ∨ (nin is 0 && nin is 1 && Nat.ble 2 N) = true := by first | exact .inl rfl | exact .inr rfl) : Ops X sz rd all (o :: rest) k L h m Q := ⟨fun e0 he => by
 subst hN; subst hv'; subst hab
 refine TriOps.cons (hw e0 he) (K := fun s' => RunK X sz rd k Q .normal s') ?_
 intro ro ρ w a next Q' h1 p h3 h4 h5
 refine ⟨fun _ _ => trivial, ?_⟩
 rw [show (wideR ro).round = ro from rfl, Oper.semAt_eq ro a.eval o (by rw [ho]; intro d q; cases q)]
 have hfv' := ev_ok h3 f
 rw [he.ev hfv] at hfv'
 simp only [VR, FR] at hfv'
 obtain ⟨f', F, C, e1, e2, e3, e4⟩ := hfv'
 subst e1
 have hargs := evs_ok h3 cl.args.toList
 rw [he.evs hv] at hargs
 have hA := wk_ok p hwk (VRs.append (VRs.append e2 hargs) e3)
 have hA2 : VRs (inMap ρ is h.nxt bs.length) args _ := lows_ok args hk.la ((vrs_ren _ _).1 hA)
 obtain ⟨gx, hgx⟩ := evid_ok p hb hk.lo (bs := bs) (acc := args) (n := 0) (fun j b e => by rw [Nat.zero_add]; exact e) hk.ev (vrs_ex hA2)
 obtain ⟨nx, w1, q1, q2⟩ := hk.run (inMap ρ is h.nxt bs.length) w _ gx (lw.now p) (fun b ⟨j, N, e⟩ => lw.out (p.mine _ b N (inMap_m e).2)) (p.enter E.g hap hb hk.lo hgx) hA2
 have hrun : (execOp a.eval o).run X.c.P w = .ok nx w1 := by
  rw [← q1]
  simp only [execOp, ho, resolve, hc, e4, Deferred.ofValue, Sem.run_bind, Sem.run_pure, Result.andThen_ok, invoke]
  congr 2
  apply Array.ext'; simp
 rw [hrun]
 refine uponIn_of_next q2 fun z w' ⟨ρ', pi', hz⟩ => ?_
 obtain ⟨pp, hs'⟩ := p.back E.g hap hb hgx hI hG hgz hk.le hk.lm pi'
 obtain ⟨e', he', er'⟩ := known_env (σ := outMap ρ ρ' is h.nxt bs'.length) (L := L') (tm := a.tmps) (sz := sz) h3.1 (fun t u q => by
  obtain ⟨c1, c2⟩ := clean_lk hL t u q
  have := h3.2 t
  rw [he t u c1] at this
  exact okB_ok hs' u c2 this)
 refine h5 (ren (sg is h.nxt) v) ⟨e', _, m⟩ z w' _ ⟨e'.set und d _, by rw [hd]; exact setD_some hs, n.run _ (he'.set d _)⟩ ?_ pp er' ?_ (outMap_ren hap hk.lv hz)
 ·cases rd with
  | none => exact h1
  | some r =>
   obtain ⟨B, N, x1, x2⟩ := h1
   exact ⟨B, N, hs'.m r _ (nin2_f hrd).1 (nin2_f hrd).2 x1, x2⟩
 ·have hmr : ∀ {m : List Nat} {D : List Deferred}, nins2 (arrI is bs) (rowI is bs) m = true → MR ρ m D → MR (outMap ρ ρ' is h.nxt bs'.length) m D := by
   intro m
   induction m with
   | nil => intro D _ q; exact q
   | cons d m ih =>
    intro D hh q
    simp only [nins2] at hh
    split at hh
    ·rename_i hd
     obtain ⟨B, N, r, x1, x2, x3⟩ := q
     exact ⟨B, N, r, hs'.m d _ (nin2_f hd).1 (nin2_f hd).2 x1, ih hh x2, x3⟩
    ·cases hh
  obtain ⟨D1, h5, h6⟩ := h4
  exact ⟨D1, hmr hm h5, h6⟩⟩
end
structure KItW (c : Ctx) (W : World) (g : FuncId) (cap : List AV) (items : List (List AV)) : Prop where
 fn : ∃ fn, c.P.funcs[g]? = some fn ∧ fn.body.isSome = true
 run : ∀ (G : Gho c.P) (w : World) (C : List Value) (S : Nat → Prop) (F : Nat → List Value), ExtW W w → (∀ b, S b → W.heap.size ≤ b) → G.items = items → G.n0 = w.heap.size → FzW F w → VRs (fzm F) cap C → S G.blk → G.J 0 S F w → (∀ b, S b → b < w.heap.size) →
  ∃ nx w1, (callFunc g (Value.func (.yield G.blk) #[] #[] :: C).toArray).run c.P w = .ok nx w1 ∧ NextOk c.P (fun z w' => Same w w' ∧ (∀ b, b < w.heap.size → ¬ S b → w'.heap[b]? = w.heap[b]?) ∧
   ∃ k S' F', (k = items.length ∨ k = items.length + 1) ∧ G.J k S' F' w') nx w1
theorem KItW.of {c : Ctx} (W : World) (k : CtxOk c) (hg0 : ∀ i r, c.g0.get i ≠ .gl r) {f : FuncId} {fn : Func} {body : Code} (hf : c.P.funcs[f]? = some fn) (hb : fn.body = some body) {cap : List AV} {items : List (List AV)} (hlen : Nat.ble (cap.length + 1) fn.ntmps = true) 
  (H : ∀ w F opn (G : Gho c.P) gx, LW W ⟨c, w, F, opn, some G, none, [], [], gx⟩ → G.items = items → Go ⟨c, w, F, opn, some G, none, [], [], gx⟩ fn.ntmps none [.code body] (argsL (.fn (.yield 1) [] [] :: cap) 0) (hq 2 [.arr 0 0 0 [], .none]) [] (FinY c fn.results.toList items.length)) : KItW c W f cap items := by
 refine ⟨⟨fn, hf, by rw [hb]; rfl⟩, fun G w C S F hE hSW hit hn0 hfz hC hblk hJ hS => ?_⟩
 have hnm : fn.name ≠ "runtime.NumGoroutine" := by simpa using k.names f fn hf
 refine ⟨.enter f (Value.func (.yield G.blk) #[] #[] :: C).toArray, w, by simp [callFunc, hf, hnm, hb, Sem.run], ?_⟩
 refine callsIn_of_wp_marks hf hb trivial ?_
 let ρ : Map := ⟨fun i => if i = 1 then some (G.blk, 0) else none, F, fun i n => if i = 0 ∧ n = 0 then some (.slice none 0 0) else none⟩
 have r1 : ρ 1 = some (G.blk, 0) := rfl
 have r2 : ∀ {i B N}, ρ i = some (B, N) → i = 1 ∧ B = G.blk := fun {i B N} e => by
  by_cases hi : i = 1
  ·subst hi; rw [r1] at e; cases e; exact ⟨rfl, rfl⟩
  ·have : ρ i = none := if_neg hi
   rw [this] at e; cases e
 have g0 : (hq 2 [.arr 0 0 0 [], .none]).get 0 = .arr 0 0 0 [] := rfl
 have gN : ∀ i, i ≠ 0 → (hq 2 [.arr 0 0 0 [], .none]).get i = .none := fun i hi => by
  rw [hq_get]
  match i, hi with
  | 1, _ => rfl
  | i + 2, _ => simp
 have nok : ∀ {i B N}, ρ i = some (B, N) → ¬ (hq 2 [.arr 0 0 0 [], .none]).ok i := fun {i B N} e o => by
  obtain ⟨rfl, _⟩ := r2 e
  unfold Heap.ok at o; rw [gN 1 (by decide)] at o; exact o
 have hA : VRs ρ (.fn (.yield 1) [] [] :: cap) (Value.func (.yield G.blk) #[] #[] :: C) := by
  simp only [VRs]
  refine ⟨_, _, ?_, VRs.mono (ρ := fzm F) (σ := ρ) ⟨fun _ _ e => (by cases e), fun _ _ _ e => e, fun _ _ _ e => (by cases e)⟩ cap hC, rfl⟩
  simp only [VR, FR, VRs]
  exact ⟨_, [], [], ⟨_, _, r1, rfl⟩, rfl, rfl, rfl⟩
 have hpi : PI ⟨c, w, F, S, some G, none, [], [], []⟩ ρ (hq 2 [.arr 0 0 0 [], .none]) w := by
  refine ⟨⟨fun i B N e => ?_, fun i B N e q => absurd q (nok e), fun i j B N M hij e1 e2 k1 k2 => absurd k1 (nok e1), fun i r e => ?_, hfz, fun i B N e q => absurd q (nok e), fun i t z n l e => ?_⟩, ⟨fun i hi => gN i (by have hi : 2 ≤ i := hi; omega), fun i r q e => ?_, fun i r q t e => ?_, fun q _ => get_leaf none q⟩, ⟨fun i hi => if_neg (by have hi : 2 ≤ i := hi; omega), fun i r e => absurd e (hg0 i r)⟩, fun i hi n => if_neg (by have hi : 2 ≤ i := hi; omega), fun i t z n l e m hm => ?_, ⟨Same.refl w, fun _ _ => rfl⟩, fun i B N e hs => ?_, fun _ _ _ e => e, fun _ _ => rfl, (by simp only [VRs]), fun G' hG t z n l e => ?_⟩
  ·obtain ⟨_, rfl⟩ := r2 e; exact hS _ hblk
  ·by_cases hi : i = 0
   ·subst hi; rw [g0] at e; cases e
   ·rw [gN i hi] at e; cases e
  ·by_cases hi : i = 0
   ·subst hi; rw [g0] at e; cases e
    exact ⟨rfl, .inl ⟨rfl, _, rfl⟩⟩
   ·rw [gN i hi] at e; cases e
  ·by_cases hi : i = 0
   ·subst hi; rw [g0] at e; cases e
   ·rw [gN i hi] at e; cases e
  ·by_cases hi : i = 0
   ·subst hi; rw [g0] at e; cases e
   ·rw [gN i hi] at e; cases e
  ·by_cases hi : i = 0
   ·subst hi; rw [g0] at e; cases e
    exact if_neg (fun a => by omega)
   ·rw [gN i hi] at e; cases e
  ·obtain ⟨_, rfl⟩ := r2 e; exact hs.2 hblk
  ·cases hG
   rw [g0] at e; cases e
   exact ⟨S, F, hJ, hS, fun i B N e q => absurd q (nok e), ⟨fun _ _ => rfl, fun _ _ _ e => e⟩, by omega, hblk, ⟨0, r1⟩, (fun b q hs => hs.2 q), _, rfl⟩
 have h := (H w F S G [] ⟨hE, hSW⟩ hit).run (T.put und (.fn (.yield 1) [] [] :: cap) (env0 und fn.ntmps) 0) (argsL_has _ _ 0)
 have ht : Tri ⟨c, w, F, S, some G, none, [], [], []⟩ fn.ntmps none body ⟨T.put und (.fn (.yield 1) [] [] :: cap) (env0 und fn.ntmps) 0, hq 2 [.arr 0 0 0 [], .none], []⟩ (FinY c fn.results.toList items.length) := h
 refine ht none ρ w _ _ rfl hpi (args_er hA (bleT hlen)) ⟨[], rfl, rfl⟩ fun x s' a' w' ρ' ⟨hx, h', vs, q1, q2, t, z, n, l, q3, q4⟩ g1 g2 g3 g4 => ?_
 have hfin : LeavesInM Fence.wide 0 c.P fn a'.tmps (EndR fun z w' => Same w w' ∧ (∀ b, b < w.heap.size → ¬ S b → w'.heap[b]? = w.heap[b]?) ∧ ∃ k S' F', (k = items.length ∨ k = items.length + 1) ∧ G.J k S' F' w') a'.defers .returning w' := by
  refine leave_ok g2.hr g2.wf (g4.nil rfl) q1 fun w2 gg => ?_
  have g5 := g2.good gg (ArrKeep.leave q1)
  obtain ⟨z', z1, z2⟩ := results_ok k g5.hr g3 q2
  obtain ⟨S', F', s1, _⟩ := g5.gh G rfl t z n l q3
  exact ⟨z', z1, g5.ext.1, fun b hb hs => g5.ext.2 b ⟨hb, hs⟩, z, S', F', q4, s1⟩
 rcases hx with rfl | rfl
 ·exact hfin
 ·exact hfin
theorem Go.rangeX {W : World} {X : Cx} (lw : LW W X) {tb : List (Nat × TE)} (E : Env X.c tb) {sz : Nat} {k : List It} {L : List (Nat × AV)} {h : Heap} {m : List Nat} {Q : Post} (n : Nat) {f : Operand} {ps : Array Tmp} {assign body : Code} {g : FuncId} {cap : List AV} {items : List (List AV)} (hn : h.nxt = n) (hfv : evL L f = some (.fn (.func g) [] cap)) (hdat : datsB cap = true) (hk : KItW X.c W g cap items) (hon : onceB L = true)
  (H : Nat → Heap) (h0 : ∀ b, ChgE (XH X L n m b) (newAt n h (.dfr true)) (H 0)) (hps : ∀ (j : Nat) (v : List AV), items[j]? = some v → Nat.beq ps.toList.length v.length = true) (hps2 : (ps.toList.all fun p => Nat.ble (p + 1) sz) = true)
  (hbody : ∀ (j : Nat) (v : List AV), items[j]? = some v → ∀ b, Go (XH X L n m b) sz none [.code assign] (setL ps.toList v L) (H j) [] (QA X sz k L n m Q (H (j + 1)) body))
  (nx : Go X sz none k L (H items.length) (n :: m) Q) (hro : X.ro = none := by rfl) (hgn : X.g = none ∨ ∃ t z q l, h.get 0 = .arr t z q l := by first | exact .inl rfl | exact .inr ⟨_, _, _, _, rfl⟩) :
  Go X sz none (.code (.rangeFunc f ps assign body) :: k) L h m Q := ⟨fun e0 he => by
 subst hn
 intro ro ρ w a Q' h1 p h3 h4 h5
 have hro' : ro = none := (show ro = X.ro from h1).trans hro
 subst hro'
 refine wpIn_rangeFunc fun fn' _ => ?_
 have g1 := Good.newBlock p.hr p.wf (p.fr.1 _ (Nat.le_refl _)) (.dfr true) (.deferred (some [])) 0 (fun r q => by cases q) (by simp only [ABR]; exact World.alloc_heap_new _ _)
 have p1 := p.good g1 (ArrKeep.new rfl)
 have hs1 : Sub ρ (upd ρ h.nxt (w.heap.size, 0)) := g1.sub
 generalize hwA : w.alloc (.deferred (some [])) = wA at *
 have hsA : wA.heap.size = w.heap.size + 1 := by rw [← hwA]; simp [World.size_alloc]
 generalize hρ1 : upd ρ h.nxt (w.heap.size, 0) = ρ1 at *
 have hm1 : MRX X ρ1 (h.nxt :: m) ([{ target := .collected w.heap.size, args := #[] }] ++ a.defers) :=
  MRX.push (m := [h.nxt]) (D := [{ target := .collected w.heap.size, args := #[] }]) ⟨w.heap.size, 0, [], (by rw [← hρ1]; exact upd_same _ _ _), rfl, rfl⟩ (h4.mono hs1)
 obtain ⟨gx0, b1, b2⟩ := held_in (X := X) (rd := none) (L := L) (h1.mono hs1) (h3.mono hs1) he hon hm1
 have hB : (wA.alloc (.loop { state := .ready, pending := none, fn := fn', tmps := a.tmps, params := ps, assign, body, defers := w.heap.size })).heap.size = wA.heap.size + 1 := by simp [World.size_alloc]
 have hBl : (wA.alloc (.loop { state := .ready, pending := none, fn := fn', tmps := a.tmps, params := ps, assign, body, defers := w.heap.size })).heap[wA.heap.size]? = some (.loop { state := .ready, pending := none, fn := fn', tmps := a.tmps, params := ps, assign, body, defers := w.heap.size }) := World.alloc_heap_new _ _
 have hBo : ∀ b, b < wA.heap.size → (wA.alloc (.loop { state := .ready, pending := none, fn := fn', tmps := a.tmps, params := ps, assign, body, defers := w.heap.size })).heap[b]? = wA.heap[b]? := fun b hb => by
  show (wA.heap.push _)[b]? = _
  rw [Array.getElem?_push, if_neg (by omega)]
 have hBs : Same wA (wA.alloc (.loop { state := .ready, pending := none, fn := fn', tmps := a.tmps, params := ps, assign, body, defers := w.heap.size })) := ⟨rfl, rfl, rfl, by omega⟩
 have hent : (Instr.enterLoop fn' a.tmps ps assign body none).run X.c.P w = .ok (wA.heap.size, [{ target := .collected w.heap.size, args := #[] }]) (wA.alloc (.loop { state := .ready, pending := none, fn := fn', tmps := a.tmps, params := ps, assign, body, defers := w.heap.size })) := by
  rw [run_enterLoop_outer, hwA, hsA]
 generalize wA.alloc (.loop { state := .ready, pending := none, fn := fn', tmps := a.tmps, params := ps, assign, body, defers := w.heap.size }) = wB at *
 generalize hB' : wA.heap.size = B at *
 have hgn' : ∀ G, X.g = some G → G.n0 ≤ w.heap.size := fun G hG => by
  rcases hgn with q | ⟨t, z, q, l, e⟩
  ·rw [q] at hG; cases hG
  ·obtain ⟨_, _, _, _, _, _, a, _⟩ := p.gh G hG t z q l e; exact a
 have hw0 : X.w0.heap.size ≤ w.heap.size := p.ext.1.size
 obtain ⟨S0, Fo0, s1, s2, s3⟩ := p1.gh.wit
 obtain ⟨p2, gw⟩ := p1.world hBs (U := fun _ => True) (fun b hb _ => hBo b (by omega)) (fun _ _ _ _ => trivial) (fun _ _ => trivial) (fun _ _ => trivial) s1 (fun _ _ => trivial) (fun _ _ _ _ => trivial)
 have hX : PI ⟨X.c, X.w0, X.F0, X.opn, X.g, none, [], held L (h.nxt :: m) none ++ X.gv, gx0 ++ X.gx⟩ ρ1 (h.new (.dfr true)) wB := p2.more b1
 have lt1 : ∀ i b N, ρ1 i = some (b, N) → b < B := fun i b N e => by have := p1.hr.lt i b N e; omega
 have hb0 : PI (XH X L h.nxt m ⟨wB, ρ1.F, fun b => (∃ i N, ρ1 i = some (b, N)) ∨ S0 b, none, gx0 ++ X.gx⟩) ρ1 (h.new (.dfr true)) wB :=
  hX.base (S := S0) gw none [] _ _ hX.keep (F := ρ1.F) (fun _ _ _ e => e) hX.hr.fz (fun _ _ _ _ => rfl) (fun _ _ => rfl) (fun _ _ _ _ => rfl)
 rw [new_at rfl] at hb0
 obtain ⟨ρ2, p3⟩ := h0 _ ρ1 wB hb0
 obtain ⟨p4, _, fr0, sF0, S2, Fo2, gw2, lt2, nsh2, out2⟩ := hX.leg (S := S0) (fun b q => s3 b q) (F := ρ1.F) (fun _ _ _ e => e) (fun _ _ => rfl) p3
 have hBnot : ¬ ((∃ i N, ρ1 i = some (B, N)) ∨ S0 B) := fun q => q.elim (fun ⟨i, N, e⟩ => Nat.lt_irrefl _ (lt1 i B N e)) fun q => by have := s2 B q; omega
 have hBlt : B < wB.heap.size := by omega
 obtain ⟨_, hBF, hBi⟩ := fr0 B hBlt hBnot
 have hBS := out2 B hBlt hBnot
 have hF1B : ρ1.F B = [] := Classical.byContradiction fun q => by have := p1.hr.F_lt q; omega
 rw [hF1B] at hBF
 let X' : Cx := ⟨X.c, X.w0, X.F0, X.opn, X.g, none, [], held L (h.nxt :: m) none ++ X.gv, gx0 ++ X.gx⟩
 let rec_ : LoopState → Option Ex → Obj := fun st pd => .loop { state := st, pending := pendOf pd, fn := fn', tmps := a.tmps, params := ps, assign, body, defers := w.heap.size }
 let J : Nat → (Nat → Prop) → (Nat → List Value) → World → Prop := fun j S Fo w' => ∃ (ρ' : Map) (T : Nat → Prop) (Ft : Nat → List Value) (hh : Heap) (st : LoopState) (pd : Option Ex),
  PI X' ρ' hh w' ∧ GhW X' ρ' hh w' T Ft ∧ (∀ b, T b → S b ∧ ¬ X'.shut b) ∧ (∀ i b N, ρ' i = some (b, N) → S b ∧ b ≠ B) ∧ (ρ'.F B = [] ∧ ∀ b, ¬ (S b ∨ b < wB.heap.size) → ρ'.F b = Fo b) ∧ (∀ (b i : Nat) (x : Value), (Fo b)[i]? = some x → (ρ'.F b)[i]? = some x) ∧
   S B ∧ ¬ T B ∧ B < w'.heap.size ∧ w'.heap[B]? = some (rec_ st pd) ∧ ((j ≤ items.length ∧ st = .ready ∧ pd = none ∧ hh = H j) ∨ (j = items.length + 1 ∧ st = .done ∧ ∃ x, pd = some x ∧ x ≠ .normal ∧ ∀ e, Has e L → RunK X sz none k Q x ⟨e, hh, h.nxt :: m⟩))
 have hstab : ∀ j S Fo w1 w2, J j S Fo w1 → Same w1 w2 → (∀ b, b < w1.heap.size → (S b ∨ b < wB.heap.size ∨ Fo b ≠ []) → w2.heap[b]? = w1.heap[b]?) → J j S Fo w2 := fun j S Fo w1 w2 ⟨ρ', T, Ft, hh, st, pd, j1, j2, j3, j4, j5, j6, j7, j8, j9, j10, j11⟩ hsm hun => by
  obtain ⟨q1, q2⟩ := j1.world hsm (U := fun b => S b ∨ b < wB.heap.size ∨ Fo b ≠ []) hun (fun i b N e => .inl (j4 i b N e).1) (fun b e => by
   by_cases q : S b ∨ b < wB.heap.size
   ·exact q.elim .inl fun q => .inr (.inl q)
   ·rw [j5.2 b q] at e; exact .inr (.inr e)) (fun b hb => .inr (.inl (by have hb : b < X.w0.heap.size := hb; omega))) j2 (fun b q => .inl (j3 b q).1) (fun G hG b hb => .inr (.inl (by have := hgn' G hG; omega)))
  exact ⟨ρ', T, Ft, hh, st, pd, q1, q2, j3, j4, j5, j6, j7, j8, Nat.lt_of_lt_of_le j9 hsm.size, (hun B j9 (.inl j7)).trans j10, j11⟩
 have hstep : ∀ j S w1 v V (Fo F' : Nat → List Value), items[j]? = some v → J j S Fo w1 → wB.heap.size ≤ w1.heap.size → (∀ b, S b → b < w1.heap.size) → (∀ b, S b ∨ b < wB.heap.size → F' b = Fo b) → (∀ (b i : Nat) (x : Value), (Fo b)[i]? = some x → (F' b)[i]? = some x) → FzW F' w1 → VRs (fzm F') v V →
   ∃ nx w2, (Instr.yield B V.toArray).run X.c.P w1 = .ok nx w2 ∧ NextOk X.c.P (fun z w' => Same w1 w' ∧ (∀ b, b < w1.heap.size → ¬ S b → w'.heap[b]? = w1.heap[b]?) ∧ FzW F' w' ∧
   ∃ S', (∀ b, S b → S' b) ∧ (∀ b, S' b → b < w'.heap.size ∧ (S b ∨ w1.heap.size ≤ b)) ∧ ((z = .bool true ∧ J (j + 1) S' F' w') ∨ (z = .bool false ∧ J (items.length + 1) S' F' w'))) nx w2 := fun j S w1 v V Fo F' hit ⟨ρ', T, Ft, hh, st, pd, j1, j2, j3, j4, j5, j6, j7, j8, j9, j10, j11⟩ hn0 hSlt hF' hFF' hfz hV => by
  have hjl : j < items.length := (List.getElem?_eq_some_iff.1 hit).1
  obtain ⟨_, rfl, rfl, rfl⟩ : j ≤ items.length ∧ st = .ready ∧ pd = none ∧ hh = H j := by
   rcases j11 with q | q
   ·exact q
   ·have := q.1; omega
  let F2 : Nat → List Value := fun b => @ite _ (S b ∨ b < wB.heap.size) (Classical.propDecidable _) (ρ'.F b) (F' b)
  have f1 : ∀ b, (S b ∨ b < wB.heap.size) → F2 b = ρ'.F b := fun b q => if_pos q
  have f2 : ∀ b, ¬ (S b ∨ b < wB.heap.size) → F2 b = F' b := fun b q => if_neg q
  have f3 : ∀ (b i : Nat) (x : Value), (ρ'.F b)[i]? = some x → (F2 b)[i]? = some x := fun b i x e => by
   by_cases q : S b ∨ b < wB.heap.size
   ·rw [f1 b q]; exact e
   ·rw [f2 b q]; rw [j5.2 b q] at e; exact hFF' b i x e
  have f4 : ∀ (b i : Nat) (x : Value), (F' b)[i]? = some x → (F2 b)[i]? = some x := fun b i x e => by
   by_cases q : S b ∨ b < wB.heap.size
   ·rw [f1 b q]; rw [hF' b q] at e; exact j6 b i x e
   ·rw [f2 b q]; exact e
  have f5 : FzW F2 w1 := fun b i x e => by
   by_cases q : S b ∨ b < wB.heap.size
   ·rw [f1 b q] at e; exact j1.hr.fz b i x e
   ·rw [f2 b q] at e; exact hfz b i x e
  have hsh : ∀ b, X'.shut b → F2 b = ρ'.F b := fun b q => f1 b (.inr (by have q : b < X.w0.heap.size := q.1; omega))
  have pa := j1.base j2 (some B) [] _ _ j1.keep (F := F2) f3 f5 (fun i b N e => f1 b (.inl (j4 i b N e).1)) (fun b q => f1 b (.inl (j3 b q).1)) (fun G hG b hb => f1 b (.inr (by have := hgn' G hG; omega)))
  have hlenV : V.length = v.length := hV.length.symm
  have hps' := beqT (hps j v hit)
  have hy := run_yield (P := X.c.P) (args := V.toArray) j10 (by simp only [List.size_toArray]; rw [hlenV, ← hps']; simp)
  refine ⟨_, w1, hy, ?_⟩
  refine roundIn_of_wpIn trivial ?_
  have hz : (ps.zip V.toArray).foldl (fun tmps (p : Tmp × Value) => tmps.setIfInBounds p.1 p.2) a.tmps = (ps.toList.zip V).foldl (fun tmps (p : Tmp × Value) => tmps.setIfInBounds p.1 p.2) a.tmps := by
   rw [← Array.foldl_toList]
   congr 1
   simp [Array.toList_zip]
  obtain ⟨v1, v2⟩ := VRs.split b1.length j1.keep
  obtain ⟨_, _, u3⟩ := b2 ρ' v1
  obtain ⟨e1, he1, er1⟩ := known_env (σ := ρ') (L := L) (tm := a.tmps) (sz := sz) h3.1 u3
  have hsF : Sub ρ' ⟨ρ'.m, F2, ρ'.V⟩ := ⟨fun _ _ e => e, f3, fun _ _ _ e => e⟩
  obtain ⟨e2, hpe⟩ := setPs_some (sz := sz) e1 (hps j v hit) hps2
  have hV2 : VRs ⟨ρ'.m, F2, ρ'.V⟩ v V := VRs.mono (ρ := fzm F') (σ := ⟨ρ'.m, F2, ρ'.V⟩) ⟨fun _ _ e => (by cases e), f4, fun _ _ _ e => (by cases e)⟩ v hV
  obtain ⟨_, her⟩ := setPs_ok hpe hV2 (er1.mono hsF)
  have hhas := setPs_has hpe he1
  have hA := (hbody j v hit ⟨w1, F2, fun b => (∃ i N, ρ' i = some (b, N)) ∨ T b, some B, gx0 ++ X.gx⟩).run e2 hhas
  have htA : Tri (XH X L h.nxt m ⟨w1, F2, fun b => (∃ i N, ρ' i = some (b, N)) ∨ T b, some B, gx0 ++ X.gx⟩) sz none assign ⟨e2, H j, []⟩ (QA X sz k L h.nxt m Q (H (j + 1)) body) := hA
  refine htA (some B) ⟨ρ'.m, F2, ρ'.V⟩ w1 _ _ rfl pa (by rw [hz]; exact her) ⟨[], rfl, rfl⟩ fun x s' a1 w2 σ1 ⟨hx, hrunB⟩ g1 g2 g3 g4 => ?_
  subst hx
  have hnotB : ¬ ((∃ i N, ρ' i = some (B, N)) ∨ T B) := fun q => q.elim (fun ⟨i, N, e⟩ => (j4 i B N e).2 rfl) j8
  obtain ⟨c1, c2, c3, c4, T1, Ft1, c5, c6, c7, c8⟩ := j1.leg (fun b q => (j3 b q).2) f3 hsh g2
  obtain ⟨d1, d2, d3⟩ := c3 B j9 hnotB
  have hF2B : F2 B = [] := by
   rw [f1 B (.inl j7)]; exact j5.1
  rw [hF2B] at d2
  rw [j10] at d1
  have hB2 : B < w2.heap.size := Nat.lt_of_lt_of_le j9 c2.size
  refine ⟨_, run_beginRound d1 rfl, ?_⟩
  have hput : ∀ (W : World) (o : Obj), Same W (W.putObj B o) := fun W o => ⟨rfl, rfl, rfl, by simp [World.putObj_size]⟩
  obtain ⟨p5, gw5⟩ := c1.world (hput w2 (rec_ .busy none)) (U := fun b => b ≠ B) (fun b _ q => World.putObj_heap_other q) (fun i b N e q => d3 i N (q ▸ e)) (fun b e q => e (q ▸ d2)) (fun b hb q => by have hb : b < X.w0.heap.size := hb; omega) c5 (fun b e q => c8 B j9 hnotB (q ▸ e)) (fun G hG b hb q => by have := hgn' G hG; omega)
  have pb := p5.base gw5 (some B) [] _ _ p5.keep (F := σ1.F) (fun _ _ _ e => e) p5.hr.fz (fun _ _ _ _ => rfl) (fun _ _ => rfl) (fun _ _ _ _ => rfl)
  have htB : Tri (XH X L h.nxt m ⟨w2.putObj B (rec_ .busy none), σ1.F, fun b => (∃ i N, σ1 i = some (b, N)) ∨ T1 b, some B, gx0 ++ X.gx⟩) sz none body s' (QB X sz k L h.nxt m Q (H (j + 1)) ⟨w2.putObj B (rec_ .busy none), σ1.F, fun b => (∃ i N, σ1 i = some (b, N)) ∨ T1 b, some B, gx0 ++ X.gx⟩) := hrunB _
  refine htB (some B) σ1 _ a1 _ rfl pb g3 g4 fun x s2 a2 w3 σ2 hQ k1 k2 k3 k4 => ?_
  have hB2' : B < (w2.putObj B (rec_ .busy none)).heap.size := by simp only [World.putObj_size]; exact hB2
  have hnotB2 : ¬ ((∃ i N, σ1 i = some (B, N)) ∨ T1 B) := fun q => q.elim (fun ⟨i, N, e⟩ => d3 i N e) (c8 B j9 hnotB)
  have fin : ∀ (st2 : LoopState) (pd2 : Option Ex) (bb : Bool) (σ3 : Map) (h3' : Heap), PI (XH X L h.nxt m ⟨w2.putObj B (rec_ .busy none), σ1.F, fun b => (∃ i N, σ1 i = some (b, N)) ∨ T1 b, some B, gx0 ++ X.gx⟩) σ3 h3' w3 →
    (∃ j', ((bb = true ∧ j' = j + 1) ∨ (bb = false ∧ j' = items.length + 1)) ∧ ((j' ≤ items.length ∧ st2 = .ready ∧ pd2 = none ∧ h3' = H j') ∨ (j' = items.length + 1 ∧ st2 = .done ∧ ∃ x, pd2 = some x ∧ x ≠ .normal ∧ ∀ e, Has e L → RunK X sz none k Q x ⟨e, h3', h.nxt :: m⟩))) →
    w3.heap[B]? = some (rec_ .busy none) ∧ (Same w1 (w3.putObj B (rec_ st2 pd2)) ∧ (∀ b, b < w1.heap.size → ¬ S b → (w3.putObj B (rec_ st2 pd2)).heap[b]? = w1.heap[b]?) ∧ FzW F' (w3.putObj B (rec_ st2 pd2)) ∧
     ∃ S', (∀ b, S b → S' b) ∧ (∀ b, S' b → b < (w3.putObj B (rec_ st2 pd2)).heap.size ∧ (S b ∨ w1.heap.size ≤ b)) ∧ ((Value.bool bb = .bool true ∧ J (j + 1) S' F' (w3.putObj B (rec_ st2 pd2))) ∨ (Value.bool bb = .bool false ∧ J (items.length + 1) S' F' (w3.putObj B (rec_ st2 pd2))))) := fun st2 pd2 bb σ3 h3' pq ⟨j', hj', hend⟩ => by
   obtain ⟨e1, e2, e3, e4, T2, Ft2, e5, e6, e7, e8⟩ := p5.leg c7 (fun _ _ _ e => e) (fun _ _ => rfl) pq
   obtain ⟨x1, x2, x3⟩ := e3 B hB2' hnotB2
   rw [World.putObj_heap_same hB2] at x1
   rw [d2] at x2
   have hT2 := e8 B hB2' hnotB2
   have hB3 : B < w3.heap.size := Nat.lt_of_lt_of_le hB2' e2.size
   obtain ⟨p6, gw6⟩ := e1.world (hput w3 (rec_ st2 pd2)) (U := fun b => b ≠ B) (fun b _ q => World.putObj_heap_other q) (fun i b N e q => x3 i N (q ▸ e)) (fun b e q => e (q ▸ x2)) (fun b hb q => by have hb : b < X.w0.heap.size := hb; omega) e5 (fun b e q => hT2 (q ▸ e)) (fun G hG b hb q => by have := hgn' G hG; omega)
   have hsz : w1.heap.size ≤ w3.heap.size := by
    have := c2.size
    have := e2.size
    simp only [World.putObj_size] at this
    omega
   have old1 : ∀ b, b < w1.heap.size → ¬ S b → ¬ ((∃ i N, ρ' i = some (b, N)) ∨ T b) := fun b _ q y => y.elim (fun ⟨i, N, e⟩ => q (j4 i b N e).1) fun y => q (j3 b y).1
   have old2 : ∀ b, b < w1.heap.size → ¬ S b → b < (w2.putObj B (rec_ .busy none)).heap.size ∧ ¬ ((∃ i N, σ1 i = some (b, N)) ∨ T1 b) := fun b hb q => by
    refine ⟨by simp only [World.putObj_size]; have := c2.size; omega, fun y => y.elim (fun ⟨i, N, e⟩ => ?_) fun y => c8 b hb (old1 b hb q) y⟩
    exact (c3 b hb (old1 b hb q)).2.2 i N e
   have old3 : ∀ b, b < w1.heap.size → ¬ S b → w3.heap[b]? = w1.heap[b]? ∧ σ3.F b = F2 b ∧ (∀ i N, σ3 i ≠ some (b, N)) ∧ ¬ T2 b := fun b hb q => by
    obtain ⟨y1, y2⟩ := old2 b hb q
    obtain ⟨z1, z2, z3⟩ := e3 b y1 y2
    obtain ⟨t1, t2, _⟩ := c3 b hb (old1 b hb q)
    have hne : b ≠ B := fun e => q (e ▸ j7)
    exact ⟨(z1.trans (World.putObj_heap_other hne)).trans t1, z2.trans t2, z3, e8 b y1 y2⟩
   have hFF : ∀ (b i : Nat) (x : Value), (F2 b)[i]? = some x → (σ3.F b)[i]? = some x := fun b i x e => e4 b i x (c4 b i x e)
   have hJ : J j' (fun b => S b ∨ (w1.heap.size ≤ b ∧ b < w3.heap.size)) F' (w3.putObj B (rec_ st2 pd2)) := by
    refine ⟨σ3, T2, Ft2, h3', st2, pd2, p6, gw6, fun b q => ⟨?_, e7 b q⟩, fun i b N e => ⟨?_, fun q => x3 i N (q ▸ e)⟩, ⟨x2, fun b q => ?_⟩, fun b i x e => hFF b i x (f4 b i x e), .inl j7, hT2, by simp only [World.putObj_size]; exact hB3, World.putObj_heap_same hB3, hend⟩
    ·by_cases hb : b < w1.heap.size
     ·exact .inl (Classical.byContradiction fun hn => (old3 b hb hn).2.2.2 q)
     ·exact .inr ⟨by omega, by have := e6 b q; omega⟩
    ·by_cases hb : b < w1.heap.size
     ·exact .inl (Classical.byContradiction fun hn => (old3 b hb hn).2.2.1 i N e)
     ·exact .inr ⟨by omega, e1.hr.lt i b N e⟩
    ·have q1 : ¬ S b := fun y => q (.inl (.inl y))
     have q2 : ¬ b < wB.heap.size := fun y => q (.inr y)
     by_cases hb : b < w1.heap.size
     ·rw [(old3 b hb q1).2.1, f2 b (fun y => y.elim q1 q2)]
     ·have hb3 : ¬ b < w3.heap.size := fun y => q (.inl (.inr ⟨by omega, y⟩))
      have r1 : σ3.F b = [] := Classical.byContradiction fun y => hb3 (e1.hr.F_lt y)
      rw [r1, fo_nil (fun b i x e => hFF b i x (f4 b i x e)) r1]
   refine ⟨x1, ⟨(c2.trans (hput w2 _)).trans (e2.trans (hput w3 _)), fun b hb q => ?_, fun b i x e => p6.hr.fz b i x (hFF b i x (f4 b i x e)), fun b => S b ∨ (w1.heap.size ≤ b ∧ b < w3.heap.size), fun b q => Or.inl q, fun b q => ⟨?_, ?_⟩, ?_⟩⟩
   ·rw [World.putObj_heap_other (fun e : b = B => q (by rw [e]; exact j7))]; exact (old3 b hb q).1
   ·simp only [World.putObj_size]
    rcases q with q | q
    ·have := hSlt b q; omega
    ·exact q.2
   ·rcases q with q | q
    ·exact .inl q
    ·exact .inr q.1
   ·rcases hj' with ⟨rfl, rfl⟩ | ⟨rfl, rfl⟩
    ·exact .inl ⟨rfl, hJ⟩
    ·exact .inr ⟨rfl, hJ⟩
  cases x with
  | normal =>
   obtain ⟨σ3, pq⟩ := hQ σ2 w3 k2
   obtain ⟨y1, y2⟩ := fin .ready none true σ3 _ pq ⟨j + 1, .inl ⟨rfl, rfl⟩, .inl ⟨hjl, rfl, rfl, rfl⟩⟩
   exact ⟨_, _, run_endRound none y1, y2⟩
  | exit id =>
   obtain ⟨y1, y2⟩ := fin .done (some (.exit id)) false σ2 _ k2 ⟨items.length + 1, .inr ⟨rfl, rfl⟩, .inr ⟨rfl, rfl, _, rfl, (by simp), hQ⟩⟩
   exact ⟨_, _, run_endRound (some (.exit id)) y1, y2⟩
  | ret =>
   obtain ⟨y1, y2⟩ := fin .done (some .ret) false σ2 _ k2 ⟨items.length + 1, .inr ⟨rfl, rfl⟩, .inr ⟨rfl, rfl, _, rfl, (by simp), hQ⟩⟩
   exact ⟨_, _, run_endRound (some .ret) y1, y2⟩
 let G : Gho X.c.P := ⟨wB.heap.size, J, hstab, B, items, hstep⟩
 have hfv' := VR.mono hs1 _ (ev_ok h3 f)
 rw [he.ev hfv] at hfv'
 simp only [VR, FR, VRs] at hfv'
 obtain ⟨f', F, C, e1, rfl, e3, e4⟩ := hfv'
 subst e1
 have hC : VRs (fzm ρ2.F) cap C := VRs.mono (ρ := ρ1.d) (σ := fzm ρ2.F) ⟨fun _ _ e => (by cases e), sF0, fun _ _ _ e => (by cases e)⟩ cap (dats_ok cap hdat e3)
 have hout : ∀ b, ((∃ i N, ρ2 i = some (b, N)) ∨ S2 b ∨ b = B) → W.heap.size ≤ b := fun b q => by
  have lw' : LW W X' := ⟨lw.ext, lw.opn⟩
  rcases q with ⟨i, N, e⟩ | q | q
  ·exact lw'.out (p4.mine i b N e)
  ·exact lw'.out (nsh2 b q)
  ·have := lw.ext.1.size; omega
 obtain ⟨nx', wc, q1, q2⟩ := hk.run G wB C (fun b => (∃ i N, ρ2 i = some (b, N)) ∨ S2 b ∨ b = B) ρ2.F ((show LW W X' from ⟨lw.ext, lw.opn⟩).now p4) hout rfl rfl p4.hr.fz hC (.inr (.inr rfl)) (by
  refine ⟨ρ2, S2, Fo2, H 0, .ready, none, p4, gw2, fun b q => ⟨.inr (.inl q), nsh2 b q⟩, fun i b N e => ⟨.inl ⟨i, N, e⟩, fun q => hBi i N (q ▸ e)⟩, ⟨hBF, fun b q => rfl⟩, fun _ _ _ e => e, .inr (.inr rfl), hBS, hBlt, hBl, .inl ⟨Nat.zero_le _, rfl, rfl, rfl⟩⟩) (fun b q => by
   rcases q with ⟨i, N, e⟩ | q | q
   ·exact p4.hr.lt i b N e
   ·exact lt2 b q
   ·omega)
 obtain ⟨fn, hfn, hbody'⟩ := hk.fn
 obtain ⟨bodyG, hbodyG⟩ := Option.isSome_iff_exists.1 hbody'
 have hnm : fn.name ≠ "runtime.NumGoroutine" := by simpa using E.k.names g fn hfn
 have hcall : ∀ (A : Array Value), (callFunc g A).run X.c.P wB = .ok (.enter g A) wB := fun A => by simp [callFunc, hfn, hnm, hbodyG, Sem.run]
 rw [hcall] at q1
 cases q1
 have harr : (([] : List Value).toArray ++ #[Value.func (.yield B) #[] #[]] ++ C.toArray) = (Value.func (.yield B) #[] #[] :: C).toArray := by apply Array.ext'; simp
 refine ⟨B, [{ target := .collected w.heap.size, args := #[] }], wB, { target := .fn (.func g) C.toArray, args := ([] : List Value).toArray ++ #[Value.func (.yield B) #[] #[]] }, wB, g, ([] : List Value).toArray ++ #[Value.func (.yield B) #[] #[]] ++ C.toArray, wB, hent, ?_, fun _ _ => trivial, ?_, fun q => by simp [wideR, Fence.wide] at q, ?_⟩
 ·simp only [resolve, e4, Deferred.ofValue, Sem.run_pure]
  simp [Act.eval]
 ·simp only [invoke]
  exact hcall _
 ·rw [harr]
  have q3 : CallsIn Fence.wide 0 X.c.P g (Value.func (.yield B) #[] #[] :: C).toArray wB (EndR _) := q2
  refine CallsIn.mono (callsIn_ro q3) fun e w' r => ?_
  cases e with
  | panicked ch => exact r.elim
  | outgrown => exact r.elim
  | returned z =>
   obtain ⟨r1, r2, k', S', F', r3, ρ', T, Ft, hh, st, pd, j1, j2, j3, j4, j5, j6, j7, j8, j9, j10, j11⟩ := r
   have hst : st ≠ .busy := by
    rcases j11 with q | q
    ·rw [q.2.1]; simp
    ·rw [q.2.1]; simp
   obtain ⟨v1, v2⟩ := VRs.split b1.length j1.keep
   obtain ⟨u1, u2, u3⟩ := b2 ρ' v1
   obtain ⟨p9, _⟩ := j1.world (w' := w'.putObj B (.loop { state := .exhausted, pending := pendOf pd, fn := fn', tmps := a.tmps, params := ps, assign, body, defers := w.heap.size })) ⟨rfl, rfl, rfl, by simp only [World.putObj_size]; omega⟩ (U := fun b => b ≠ B) (fun b _ q => World.putObj_heap_other q) (fun i b N e q => (j4 i b N e).2 q) (fun b e q => e (q ▸ j5.1)) (fun b hb q => by have hb : b < X.w0.heap.size := hb; omega) j2 (fun b e q => j8 (q ▸ e)) (fun G hG b hb q => by have := hgn' G hG; omega)
   have p10 := (PI.less p9 b1.length).1
   obtain ⟨e', he', er'⟩ := known_env (σ := ρ') (L := L) (tm := a.tmps) (sz := sz) h3.1 u3
   refine ⟨pendOf pd, _, run_endLoop j10 hst, ?_⟩
   rcases j11 with ⟨q5, _, rfl, rfl⟩ | ⟨_, _, x, rfl, hxn, hrun⟩
   ·have hk' : k' = items.length := by omega
    subst hk'
    exact h5 .normal ⟨e', _, _⟩ { a with defers := [{ target := .collected w.heap.size, args := #[] }] ++ a.defers } _ ρ' (nx.run e' he') u1 p10 er' u2
   ·have fin := h5 x ⟨e', _, h.nxt :: m⟩ { a with defers := [{ target := .collected w.heap.size, args := #[] }] ++ a.defers } _ ρ' (hrun e' he') u1 p10 er' u2
    cases x with
    | normal => exact absurd rfl hxn
    | exit id => exact wpIn_exit fin
    | ret => exact wpIn_ret fin⟩
end Go.Px
end
section
namespace Go.Px
inductive XK where
 | cmp | idx | cnt | same | sub (g : Nat)
noncomputable section
def bytesV (h : Heap) (v : AV) : Option (List Nat) :=
 match v with
 | .str l => some l
 | .nilsl => some []
 | .esl _ => some []
 | .sl id off len _ z => (match Nat.beq z 1 with
  | true => (match h.row id with
   | some r => (match Nat.ble (off + len) r.n with | true => bytesA (r.read off len) | false => none)
   | none => none)
  | false => none)
 | _ => none
def cmpN (a : List Nat) : List Nat → Int :=
 List.rec (motive := fun _ => List Nat → Int) (fun b => match b with | [] => .ofNat 0 | _ :: _ => .negSucc 0)
  (fun x _ ih b => match b with
   | [] => .ofNat 1
   | y :: b => (match Nat.ble (x % 256 + 1) (y % 256) with | true => .negSucc 0 | false => (match Nat.ble (y % 256 + 1) (x % 256) with | true => .ofNat 1 | false => ih b))) a
def idxN (c : Nat) (l : List Nat) : Nat → Int :=
 List.rec (motive := fun _ => Nat → Int) (fun _ => .negSucc 0) (fun x _ ih i => match Nat.beq (x % 256) (c % 256) with | true => .ofNat i | false => ih (i + 1)) l
def cntN (c : Nat) (l : List Nat) : Nat := List.rec (motive := fun _ => Nat) 0 (fun x _ r => match Nat.beq (x % 256) (c % 256) with | true => r + 1 | false => r) l
def pre (m : List Nat) : List Nat → Bool :=
 List.rec (motive := fun _ => List Nat → Bool) (fun _ => true)
  (fun x _ ih l => match l with | [] => false | y :: l => (match Nat.beq (x % 256) (y % 256) with | true => ih l | false => false)) m
def findAt (l m : List Nat) : Nat → Int :=
 List.rec (motive := fun _ => Nat → Int) (fun _ => .negSucc 0) (fun x t ih i => match pre m (x :: t) with | true => .ofNat i | false => ih (i + 1)) l
def fitsG (h : Heap) (g n : Nat) : Bool :=
 match glRow h g with
 | some r => (match Nat.ble 1 r.n with
  | true => (match r.get 0 with
   | .int k x => (match k with | .i64 => (match ilt x (.ofNat n) with | true => false | false => true) | _ => false)
   | .big x => Nat.ble n x
   | _ => false)
  | false => false)
 | none => false
def xrun (k : XK) (h : Heap) (args : List AV) : Option AV :=
 match k with
 | .cmp => (match args with
  | [a, b] => (match bytesV h a with
   | some l => (match bytesV h b with | some m => some (.int .i64 (cmpN l m)) | none => none)
   | none => none)
  | _ => none)
 | .idx => (match args with
  | [a, b] => (match b with
   | .int k n => (match k with
    | .u8 => (match bytesV h a with | some l => some (.int .i64 (idxN n.toNat l 0)) | none => none)
    | _ => none)
   | _ => none)
  | _ => none)
 | .cnt => (match args with
  | [a, b] => (match b with
   | .int k n => (match k with
    | .u8 => (match bytesV h a with | some l => some (.int .i64 (.ofNat (cntN n.toNat l))) | none => none)
    | _ => none)
   | _ => none)
  | _ => none)
 | .same => (match args with | [a] => some a | _ => none)
 | .sub g => (match args with
  | [a, b] => (match a with
   | .str l => (match b with
    | .str m => (match Nat.ble 2 m.length with
     | true => (match Nat.ble l.length 1000000 with
      | true => (match fitsG h g m.length with | true => some (.int .i64 (findAt l m 0)) | false => none)
      | false => none)
     | false => none)
    | _ => none)
   | _ => none)
  | _ => none)
def tabOf (xs : List (FuncId × XK)) : T (Option XK) := List.rec (motive := fun _ => T (Option XK)) .leaf (fun p _ t => t.set none p.1 (some p.2)) xs
def extT (xs : List (FuncId × XK)) : Ext := fun _ f _ args h =>
 match (tabOf xs).get none f with
 | some k => (match xrun k h args with | some v => .ok v h | none => .bad ["extern"])
 | none => .bad ["extern"]
end
def rowOf : XK → Array Value → Sem Value
 | .cmp => Extern.BytealgCompare.compare
 | .idx => Extern.BytealgIndexByte.indexByte
 | .cnt => Extern.BytealgCount.count
 | .same => Extern.AbiNoEscape.same
 | .sub _ => Extern.BytealgIndex.index
def XkOk (P : Program) : XK → Prop
 | .sub g => P.globals.findIdx? (·.name == "internal/bytealg.MaxLen") = some g
 | _ => True
def XsOk (P : Program) : List (FuncId × XK) → Prop
 | [] => True
 | (f, k) :: xs => (∃ fn, P.funcs[f]? = some fn ∧ (fn.name == "runtime.NumGoroutine") = false ∧ fn.body.isNone = true ∧ Extern.findNext fn = none ∧ Extern.find fn = some (rowOf k) ∧ XkOk P k) ∧ XsOk P xs
theorem tabOf_mem : ∀ {xs : List (FuncId × XK)} {f : FuncId} {k : XK}, (tabOf xs).get none f = some k → (f, k) ∈ xs
 | [], f, k, h => by
  have : T.get none (.leaf : T (Option XK)) f = some k := h
  rw [get_leaf] at this; cases this
 | p :: xs, f, k, h => by
  have h' : T.get none ((tabOf xs).set none p.1 (some p.2)) f = some k := h
  rw [get_set] at h'
  by_cases e : f = p.1
  ·rw [if_pos e] at h'
   cases h'
   rw [e]; exact List.mem_cons_self
  ·rw [if_neg e] at h'
   exact List.mem_cons_of_mem _ (tabOf_mem h')
theorem XsOk.at {P : Program} : ∀ {xs : List (FuncId × XK)}, XsOk P xs → ∀ {f k}, (f, k) ∈ xs → ∃ fn, P.funcs[f]? = some fn ∧ (fn.name == "runtime.NumGoroutine") = false ∧ fn.body.isNone = true ∧ Extern.findNext fn = none ∧ Extern.find fn = some (rowOf k) ∧ XkOk P k
 | [], _, f, k, h => by cases h
 | p :: xs, hx, f, k, h => by
  rcases List.mem_cons.1 h with e | h
  ·subst e; exact hx.1
  ·exact XsOk.at hx.2 h
theorem loadBytes_ok {P : Program} {w : World} {B : Nat} : ∀ (ns : List Int) (off : Nat) (acc : ByteArray), (∀ (j : Nat) v, (ns.map (Value.int .u8))[j]? = some v → w.cell? ⟨B, off + j, none⟩ = some v) →
  (Extern.Bytes.loadBytes ⟨B, off, none⟩ ns.length acc).run P w = .ok ⟨acc.data ++ ((ns.map Int.toNat).map UInt8.ofNat).toArray⟩ w
 | [], off, acc, h => by simp [Extern.Bytes.loadBytes]
 | n :: ns, off, acc, h => by
  have h0 : w.cell? ⟨B, off, none⟩ = some (.int .u8 n) := by simpa using h 0 (.int .u8 n) rfl
  have ih := loadBytes_ok (P := P) ns (off + 1) (acc.push n.toNat.toUInt8) (fun j v hv => by
   have := h (j + 1) v (by simpa using hv)
   rw [show off + 1 + j = off + (j + 1) by omega]; exact this)
  simp only [List.length_cons, Extern.Bytes.loadBytes, Sem.run_bind, run_load, h0, Result.andThen_ok, add_off]
  rw [ih]
  simp [ByteArray.push, Nat.toUInt8]
theorem bytesOf_ok {P : Program} {ρ : Map} {h : Heap} {w : World} (hr : HR ρ h w) {v : AV} {X : Value} {l : List Nat} (e : bytesV h v = some l) (hx : VR ρ v X) : (Extern.Bytes.bytesOf X).run P w = .ok (bs l) w := by
 unfold bytesV at e
 split at e
 ·cases e; simp only [VR] at hx; subst hx; simp [Extern.Bytes.bytesOf]
 ·cases e; simp only [VR] at hx; subst hx; simp [Extern.Bytes.bytesOf]; rfl
 ·cases e
  simp only [VR] at hx
  obtain ⟨B, N, o, C, hp, rfl⟩ := hx
  simp [Extern.Bytes.bytesOf, Extern.Bytes.loadBytes]; rfl
 ·rename_i id off len cap z
  split at e
  ·split at e
   ·rename_i r hrow
    split at e
    ·rename_i hb
     simp only [VR] at hx
     obtain ⟨B, N, C, hp, rfl, _⟩ := hx
     have ro := hr.rowAt hrow hp
     obtain ⟨L, l1, l2, l3⟩ := RowOk.reads ro len off (bleT hb)
     obtain ⟨ns, n1, n2⟩ := bytesA_ok _ L l e l1
     have hlen : ns.length = len := by rw [← l2, n1]; simp
     have := loadBytes_ok (P := P) (w := w) (B := B) ns off ByteArray.empty (fun j v hv => l3 j v (by rw [n1]; exact hv))
     rw [hlen, n2] at this
     simp only [Extern.Bytes.bytesOf]
     rw [this]
     have he0 : ByteArray.empty.data = #[] := rfl
     rw [he0]
     simp [bs]
    ·cases e
   ·cases e
  ·cases e
 ·cases e
theorem cmpN_eq : ∀ (a b : List Nat), cmpN a b = Lib.compareBytes (a.map UInt8.ofNat) (b.map UInt8.ofNat)
 | [], [] => rfl
 | [], _ :: _ => rfl
 | _ :: _, [] => rfl
 | x :: a, y :: b => by
  have e : cmpN (x :: a) (y :: b) = (match Nat.ble (x % 256 + 1) (y % 256) with | true => .negSucc 0 | false => (match Nat.ble (y % 256 + 1) (x % 256) with | true => .ofNat 1 | false => cmpN a b)) := rfl
  rw [e, cmpN_eq a b]
  simp only [List.map_cons, Lib.compareBytes]
  have hxy : (UInt8.ofNat x < UInt8.ofNat y) ↔ x % 256 < y % 256 := by rw [UInt8.lt_iff_toNat_lt]; simp
  have hyx : (UInt8.ofNat y < UInt8.ofNat x) ↔ y % 256 < x % 256 := by rw [UInt8.lt_iff_toNat_lt]; simp
  by_cases h1 : x % 256 < y % 256
  ·rw [if_pos (hxy.2 h1), (ble_iff _ _).2 (show x % 256 + 1 ≤ y % 256 by omega)]; rfl
  ·rw [if_neg (fun q => h1 (hxy.1 q)), ble_not (show ¬ x % 256 + 1 ≤ y % 256 by omega)]
   simp only []
   by_cases h2 : y % 256 < x % 256
   ·rw [if_pos (hyx.2 h2), (ble_iff _ _).2 (show y % 256 + 1 ≤ x % 256 by omega)]; rfl
   ·rw [if_neg (fun q => h2 (hyx.1 q)), ble_not (show ¬ y % 256 + 1 ≤ x % 256 by omega)]
theorem beq_u8 (x c : Nat) : Nat.beq (x % 256) (c % 256) = (UInt8.ofNat x == UInt8.ofNat c) := by
 by_cases h : x % 256 = c % 256
 ·have : UInt8.ofNat x = UInt8.ofNat c := by apply UInt8.toNat_inj.1; simpa using h
  rw [this, h]; simp
 ·have : UInt8.ofNat x ≠ UInt8.ofNat c := fun q => h (by have := congrArg UInt8.toNat q; simpa using this)
  rw [beqF h]; simp [this]
theorem idxN_eq (c : Nat) : ∀ (l : List Nat) (i : Nat), idxN c l i = (if Lib.indexByte (l.map UInt8.ofNat) (UInt8.ofNat c) = -1 then -1 else Lib.indexByte (l.map UInt8.ofNat) (UInt8.ofNat c) + (i : Int))
 | [], i => rfl
 | x :: l, i => by
  have e : idxN c (x :: l) i = (match Nat.beq (x % 256) (c % 256) with | true => .ofNat i | false => idxN c l (i + 1)) := rfl
  rw [e, idxN_eq c l (i + 1), beq_u8]
  have hge := Lib.indexByte_ge (l.map UInt8.ofNat) (UInt8.ofNat c)
  simp only [List.map_cons, Lib.indexByte]
  cases hb : (UInt8.ofNat x == UInt8.ofNat c) with
  | true => simp
  | false =>
   simp only [Bool.false_eq_true, if_false]
   by_cases h1 : Lib.indexByte (l.map UInt8.ofNat) (UInt8.ofNat c) = -1
   ·simp [h1]
   ·have h2 : (Lib.indexByte (l.map UInt8.ofNat) (UInt8.ofNat c) == -1) = false := by simpa using h1
    rw [if_neg h1, h2]
    simp only [Bool.false_eq_true, if_false]
    rw [if_neg (by omega)]
    push_cast
    omega
theorem cntN_eq (c : Nat) : ∀ (l : List Nat), cntN c l = Lib.countByte (l.map UInt8.ofNat) (UInt8.ofNat c)
 | [] => rfl
 | x :: l => by
  have e : cntN c (x :: l) = (match Nat.beq (x % 256) (c % 256) with | true => cntN c l + 1 | false => cntN c l) := rfl
  rw [e, cntN_eq c l, beq_u8]
  unfold Lib.countByte
  rw [List.map_cons, List.count_cons]
  cases hb : (UInt8.ofNat x == UInt8.ofNat c) <;> simp
theorem pre_eq : ∀ (m l : List Nat), pre m l = (m.map UInt8.ofNat).isPrefixOf (l.map UInt8.ofNat)
 | [], l => by cases l <;> rfl
 | x :: m, [] => rfl
 | x :: m, y :: l => by
  have e : pre (x :: m) (y :: l) = (match Nat.beq (x % 256) (y % 256) with | true => pre m l | false => false) := rfl
  rw [e, beq_u8, pre_eq m l]
  simp only [List.map_cons, List.isPrefixOf]
  cases (UInt8.ofNat x == UInt8.ofNat y) <;> simp
theorem findAt_eq (m : List Nat) (hm : m ≠ []) : ∀ (l : List Nat) (i : Nat), findAt l m i = (if Lib.index (l.map UInt8.ofNat) (m.map UInt8.ofNat) = -1 then -1 else Lib.index (l.map UInt8.ofNat) (m.map UInt8.ofNat) + (i : Int))
 | [], i => by
  have : Lib.index ([] : List UInt8) (m.map UInt8.ofNat) = -1 := by
   unfold Lib.index
   cases m with
   | nil => exact absurd rfl hm
   | cons x m => simp
  simp only [List.map_nil, this, if_true]
  rfl
 | x :: l, i => by
  have e : findAt (x :: l) m i = (match pre m (x :: l) with | true => .ofNat i | false => findAt l m (i + 1)) := rfl
  have hge := Lib.index_ge (l.map UInt8.ofNat) (m.map UInt8.ofNat)
  rw [e, findAt_eq m hm l (i + 1), pre_eq]
  simp only [List.map_cons, Lib.index]
  cases hb : (m.map UInt8.ofNat).isPrefixOf (UInt8.ofNat x :: l.map UInt8.ofNat) with
  | true => simp
  | false =>
   simp only [Bool.false_eq_true, if_false]
   by_cases h1 : Lib.index (l.map UInt8.ofNat) (m.map UInt8.ofNat) = -1
   ·simp [h1]
   ·have h2 : (Lib.index (l.map UInt8.ofNat) (m.map UInt8.ofNat) == -1) = false := by simpa using h1
    rw [if_neg h1, h2]
    simp only [Bool.false_eq_true, if_false]
    rw [if_neg (by omega)]
    push_cast
    omega
theorem fitsG_ok {ρ : Map} {h : Heap} {w : World} (hr : HR ρ h w) {g n : Nat} (e : fitsG h g n = true) : ∃ m : Int, w.cell? ⟨g, 0, none⟩ = some (.int .i64 m) ∧ (n : Int) ≤ m := by
 unfold fitsG at e
 split at e
 ·rename_i r hg
  split at e
  ·rename_i hn
   obtain ⟨v, v1, v2⟩ := hr.glAt hg 0 (by have := bleT hn; omega)
   split at e
   ·rename_i k x hx
    split at e
    ·split at e
     ·cases e
     ·rename_i hl
      rw [hx] at v2
      simp only [VR] at v2
      subst v2
      rw [ilt_eq] at hl
      exact ⟨x, v1, by simpa using hl⟩
    ·cases e
   ·rename_i x hx
    rw [hx] at v2
    simp only [VR] at v2
    obtain ⟨m, m1, rfl⟩ := v2
    have := bleT e
    exact ⟨m, v1, by omega⟩
   ·cases e
  ·cases e
 ·cases e
theorem xrun_ok {P : Program} {ρ : Map} {h : Heap} {w : World} (hr : HR ρ h w) {k : XK} (hxk : XkOk P k) {args : List AV} {A : List Value} {v : AV} (e : xrun k h args = some v) (hA : VRs ρ args A) :
  ∃ z, (rowOf k A.toArray).run P w = .ok z w ∧ VR ρ v z := by
 unfold xrun at e
 split at e
 ·split at e
  ·rename_i a b
   simp only [VRs] at hA
   obtain ⟨X, _, hx, ⟨Y, _, hy, rfl, rfl⟩, rfl⟩ := hA
   split at e
   ·rename_i l hl
    split at e
    ·rename_i m hm
     cases e
     refine ⟨.int .i64 (cmpN l m), ?_, by simp only [VR]⟩
     show (do pure (goInt (Extern.BytealgCompare.cmp (← Extern.Bytes.bytesOf X) (← Extern.Bytes.bytesOf Y))) : Sem Value).run P w = _
     simp only [Sem.run_bind, bytesOf_ok hr hl hx, bytesOf_ok hr hm hy, Result.andThen_ok, Sem.run_pure, Lib.cmp_eq, cmpN_eq]
     simp [bs, goInt]
    ·cases e
   ·cases e
  ·cases e
 ·split at e
  ·rename_i a b
   split at e
   ·rename_i kk n
    split at e
    ·split at e
     ·rename_i l hl
      cases e
      simp only [VRs] at hA
      obtain ⟨X, _, hx, ⟨Y, _, hy, rfl, rfl⟩, rfl⟩ := hA
      simp only [VR] at hy; subst hy
      refine ⟨.int .i64 (idxN n.toNat l 0), ?_, by simp only [VR]⟩
      show (do
       let b ← Extern.Bytes.bytesOf X
       let c' ← Extern.Bytes.asByte (.int .u8 n)
       match (List.range b.size).find? fun i => b[i]! == c' with
       | some i => pure (goInt i)
       | none => pure (goInt (-1)) : Sem Value).run P w = _
      simp only [Sem.run_bind, bytesOf_ok hr hl hx, Result.andThen_ok, Extern.Bytes.asByte, Sem.run_pure]
      have h1 : firstIdx (bs l) n.toNat.toUInt8 = idxN n.toNat l 0 := by
       rw [Lib.firstIdx_eq, idxN_eq]
       have hb : (bs l).data.toList = l.map UInt8.ofNat := by simp [bs]
       rw [hb]
       have hc : n.toNat.toUInt8 = UInt8.ofNat n.toNat := rfl
       rw [hc]
       split
       ·rename_i h2; rw [h2]
       ·simp
      rw [← h1]
      unfold firstIdx
      generalize (List.range (bs l).size).find? (fun i => (bs l)[i]! == n.toNat.toUInt8) = q
      cases q <;> rfl
     ·cases e
    ·cases e
   ·cases e
  ·cases e
 ·split at e
  ·rename_i a b
   split at e
   ·rename_i kk n
    split at e
    ·split at e
     ·rename_i l hl
      cases e
      simp only [VRs] at hA
      obtain ⟨X, _, hx, ⟨Y, _, hy, rfl, rfl⟩, rfl⟩ := hA
      simp only [VR] at hy; subst hy
      refine ⟨.int .i64 (.ofNat (cntN n.toNat l)), ?_, by simp only [VR]⟩
      have h0 := Lib.run_countString (P := P) (bs l) n w
      have hb : (bs l).data.toList = l.map UInt8.ofNat := by simp [bs]
      rw [hb, show n.toNat.toUInt8 = UInt8.ofNat n.toNat from rfl, ← cntN_eq] at h0
      rw [show (Value.int .i64 (.ofNat (cntN n.toNat l))) = .int .i64 (cntN n.toNat l : Nat) from rfl, ← h0]
      show (do
       let b ← Extern.Bytes.bytesOf X
       let c ← Extern.Bytes.asByte (.int .u8 n)
       pure (goInt (b.foldl (fun n x => if x == c then n + 1 else n) (0 : Nat))) : Sem Value).run P w = (do
       let b ← Extern.Bytes.bytesOf (.string (bs l))
       let c ← Extern.Bytes.asByte (.int .u8 n)
       pure (goInt (b.foldl (fun n x => if x == c then n + 1 else n) (0 : Nat))) : Sem Value).run P w
      have hstr : (Extern.Bytes.bytesOf (.string (bs l))).run P w = .ok (bs l) w := by simp [Extern.Bytes.bytesOf]
      simp only [Sem.run_bind, bytesOf_ok hr hl hx, hstr, Result.andThen_ok]
     ·cases e
    ·cases e
   ·cases e
  ·cases e
 ·split at e
  ·rename_i a
   cases e
   simp only [VRs] at hA
   obtain ⟨X, _, hx, rfl, rfl⟩ := hA
   exact ⟨X, rfl, hx⟩
  ·cases e
 ·rename_i g
  split at e
  ·rename_i a b
   split at e
   ·rename_i l
    split at e
    ·rename_i m
     split at e
     ·rename_i h2
      split at e
      ·rename_i hl
       split at e
       ·rename_i hf
        cases e
        simp only [VRs] at hA
        obtain ⟨X, _, hx, ⟨Y, _, hy, rfl, rfl⟩, rfl⟩ := hA
        simp only [VR] at hx hy
        subst hx; subst hy
        obtain ⟨mx, c1, c2⟩ := fitsG_ok hr hf
        have h2 := bleT h2
        have hl := bleT hl
        refine ⟨.int .i64 (findAt l m 0), ?_, by simp only [VR]⟩
        have h0 := Lib.run_indexString (P := P) (bs l) (bs m) w g mx hxk c1 (by rw [bs_size]; exact h2) (by rw [bs_size]; exact c2) (by rw [bs_size]; omega)
        have hm : m ≠ [] := fun q => by rw [q] at h2; simp at h2
        have e1 : findAt l m 0 = Lib.index (bs l).data.toList (bs m).data.toList := by
         rw [findAt_eq m hm l 0]
         have e2 : ∀ q : List Nat, (bs q).data.toList = q.map UInt8.ofNat := fun q => by simp [bs]
         rw [e2, e2]
         split
         ·rename_i h9; rw [h9]
         ·simp
        rw [e1]
        exact h0
       ·cases e
      ·cases e
     ·cases e
    ·cases e
   ·cases e
  ·cases e
theorem extT_ok {P : Program} {g0 : Heap} {xs : List (FuncId × XK)} (hxs : XsOk P xs) : ExtOk (ctxG P g0) (extT xs) := by
 intro app ha f fn args h v h' he hf hb ρ w A hr wf fr hA
 unfold extT at he
 split at he
 ·rename_i k hk
  split at he
  ·rename_i u hu
   cases he
   obtain ⟨fn', q1, q2, q3, q4, q5, q6⟩ := hxs.at (tabOf_mem hk)
   obtain ⟨z, z1, z2⟩ := xrun_ok (P := P) hr q6 hu hA
   refine ⟨.value z, w, ?_, ρ, Good.refl hr wf, z2⟩
   have := run_callFunc_extern q1 q2 q3 q4 q5 A.toArray w
   show (callFunc f A.toArray).run P w = _
   rw [this, z1]
   rfl
  ·cases he
 ·cases he
end Go.Px
end
section
namespace Go.Px
def byC (c : UInt8) : List AV := [.int .u8 c.toNat]
theorem byC_map (s : List UInt8) : (s.map UInt8.toNat).map (fun b => AV.int .u8 (.ofNat (b % 256))) = s.flatMap byC := by
 induction s with
 | nil => rfl
 | cons c r ih =>
  simp only [List.map_cons, List.flatMap_cons, byC, List.cons_append, List.nil_append, List.cons.injEq]
  refine ⟨?_, ih⟩
  rw [Nat.mod_eq_of_lt (UInt8.toNat_lt c)]; rfl
theorem byC_ones (s : List UInt8) : ones (s.flatMap byC) = true := ones_flat (fun _ => rfl) s
theorem byC_len (s : List UInt8) : (s.flatMap byC).length = s.length := by
 induction s with
 | nil => rfl
 | cons c r ih => simp only [List.flatMap_cons, List.length_append, ih, List.length_cons, byC, List.length_nil]; omega
section
variable {X : Cx} {tb : List (Nat × TE)} (E : Env X.c tb) {sz : Nat} {rd : Option Nat} {all : Array Oper} {o : Oper} {rest : List Oper} {k : List It} {L : List (Nat × AV)} {h : Heap} {m : List Nat} {Q : Post}
include E
theorem Ops.appendS {d : Nat} {cl : Call} {x y : Operand} {t t1 el id n : Nat} {l : List AV} {s : List UInt8} {e e1 ee : TE} (hd : o.dst = some d) (hs : Nat.ble (d + 1) sz = true) (hw : Want all L o true) (ho : o.op = .call cl) (hc : cl.callee = .builtin .append) (ha : cl.args.toList = [x, y])
  (hts0 : nth1 cl.argTypes.toList 0 = some t) (hts1 : nth1 cl.argTypes.toList 1 = some t1) (hx : evL L x = some (.own id n 1)) (hy : evL L y = some (sA s)) (ht : lkT tb t = some e) (hk : e.k = .slice el) (hel : lkT tb el = some ee) (hz : Nat.beq ee.s 1 = true) (hb : Nat.ble ee.b 1000 = true)
  (ht1 : lkT tb t1 = some e1) (hk1 : (match e1.k with | .slice _ => true | .str => true | _ => false) = true) (hg : h.get id = .arr el 1 n l) (hi : HInd id h) (hL : indL id L = true) (hm : (m.all fun i => !Nat.beq i id) = true) (hrd : rdNot id rd = true) (hG : indsB id X.gv = true)
  (hzz : (match ee.z with | .bad => false | v => Nat.beq v.cells.length ee.s) = true) (hq : s ≠ []) (hsm : n + s.length ≤ 1000000) (nx : Ops X sz rd all rest k ((d, .own id (n + s.length) 1) :: L) (h.put id (.arr el 1 (n + s.length) (l ++ s.flatMap byC))) m Q) : Ops X sz rd all (o :: rest) k L h m Q := ⟨fun e0 he => by
 refine TriOps.cons (hw e0 he) (K := fun s' => RunK X sz rd k Q .normal s') ?_
 intro ro ρ w a next Q' h1 p h3 h4 h5
 refine ⟨fun _ _ => trivial, ?_⟩
 rw [show (wideR ro).round = ro from rfl, Oper.semAt_eq ro a.eval o (by rw [ho]; intro d q; cases q)]
 have hz := beqT hz
 have hS : VR ρ (.own id n 1) (a.eval x) := by rw [← he.ev hx]; exact ev_ok h3 x
 have hY : VR ρ (sA s) (a.eval y) := by rw [← he.ev hy]; exact ev_ok h3 y
 have hq' : s.length ≠ 0 := fun q => hq (List.length_eq_zero_iff.1 q)
 obtain ⟨s1, news, hcs0, s3, s4⟩ := src_ok (P := X.c.P) (z := 1) (m := s.length) (cs := s.flatMap byC) p.hr hY (by simp [sA, srcLen]) (by unfold sA; simp only [srcCells]; rw [← byC_map])
 have hcs : VRs ρ.d (s.flatMap byC) news := dats_ok _ (dats_flat (fun _ => rfl) s) hcs0
 obtain ⟨ie, i1, i2, i3⟩ := (E.t el ee hel).si
 have hnb : ee.z ≠ .bad := fun q => by rw [q] at hzz; cases hzz
 have hzl : ee.z.cells.length = ee.s := by
  cases hv : ee.z <;> rw [hv] at hzz <;> first | (cases hzz; done) | exact beqT hzz
 have hzc : X.c.zcells el = some ee.z.cells := by
  unfold Ctx.zcells
  rw [(E.t el ee hel).z]
  cases hv : ee.z <;> first | exact absurd hv hnb | rfl
 obtain ⟨Z, z1, z2, z3⟩ := src_zero E.k i1 hzc (i2.trans hzl.symm) ρ
 have hu := under_eq E.k ((E.t t e ht).sl hk)
 obtain ⟨d1, u1, u2⟩ := (E.t t1 e1 ht1).kd
 have hu1 := under_eq E.k u1
 have hni : ∀ kk, d1 ≠ .int kk := fun kk qq => by
  subst qq
  rw [← u2] at hk1
  cases hk1
 rw [nth1_eq] at hts0 hts1
 have hsz : ie.size = 1 := i2.trans hz
 have src : Src X.c.P w cl.argTypes ie Z (a.eval y) s.length news := ⟨.inl ⟨t1, d1, by simpa using hts1, hu1, hni, s1, fun w' hw' => by
   rw [hsz, s4 w' hw' s.length (Nat.le_refl _), List.take_of_length_le (by omega)]⟩, by rw [s3, hsz], z1, z2, by rw [hsz]; decide, by rw [i3]; exact bleT hb⟩
 obtain ⟨y', w', ρ', r1, r2, r3, r4⟩ := append_own p hg hi hG hS src hsz (ty := o.type) (by simpa using hts0) hu (E.k.tys _ _ i1) [] hcs (ones_ok (byC_ones s) hcs) hq' hsm
 have hrun : (execOp a.eval o).run X.c.P w = .ok (.value y') w' := by
  obtain ⟨CS, hCS⟩ : ∃ CS, (execOp a.eval o).run X.c.P w = (builtin .append cl.argTypes o.type CS (cl.args.map a.eval)).run X.c.P w :=
   ⟨_, by simp only [execOp, ho, resolve, hc, Sem.run_bind, Sem.run_pure, Result.andThen_ok, invoke]; rfl⟩
  have hargs : cl.args.map a.eval = #[a.eval x, a.eval y] := by apply Array.ext'; simp [ha]
  rw [hCS, hargs]
  have r1' : (Builtin.append_ cl.argTypes o.type #[a.eval x, a.eval y]).run X.c.P w = .ok y' w' := r1
  simp [builtin, r1']
 rw [hrun]
 have hL2 : indL id ((d, .own id (n + s.length) 1) :: L) = true := by simp only [indL, indB]; exact hL
 obtain ⟨e', he', er'⟩ := known_env (σ := ρ') (L := L) (tm := a.tmps) (sz := sz) h3.1 (fun s v qq => by
  have := h3.2 s
  rw [he s v qq] at this
  exact ind_ok r3 v (indL_at hL s v qq) this)
 refine h5 (.own id (n + s.length) 1) ⟨e', h.put id (.arr el 1 (n + s.length) (l ++ s.flatMap byC)), m⟩ y' w' ρ' ⟨e'.set und d (.own id (n + s.length) 1), by rw [hd]; exact setD_some hs, nx.run _ (he'.set d _)⟩ ?_ r2 er' ?_ r4
 ·cases rd with
  | none => exact h1
  | some r =>
   obtain ⟨B', N', q1, q2⟩ := h1
   exact ⟨B', N', r3.m r _ (nb (show (!Nat.beq r id) = true from hrd)) q1, q2⟩
 ·have hmr : ∀ {m : List Nat} {D : List Deferred}, (m.all fun i => !Nat.beq i id) = true → MR ρ m D → MR ρ' m D := by
   intro m
   induction m with
   | nil => intro D _ q; exact q
   | cons d m ih =>
    intro D hh q
    simp only [List.all_cons, Bool.and_eq_true] at hh
    obtain ⟨B, N, r, q1, q2, q3⟩ := q
    exact ⟨B, N, r, r3.m d _ (nb hh.1) q1, ih hh.2 q2, q3⟩
  obtain ⟨D1, h5, h6⟩ := h4
  exact ⟨D1, hmr hm h5, h6⟩⟩
theorem Hop.toU {s t e id off : Nat} {x : Operand} {es ee : TE} {r : Row} (ho : o.op = .convert s t x) (hx : evL L x = some (.ptr id off)) (hs : lkT tb s = some es) (hk : es.k = .ptr e) (hu : X.c.under t = some .unsafePointer) (he : lkT tb e = some ee) (hz : Nat.beq ee.s 0 = false) (hg : h.row id = some r) (hn : Nat.ble (off + 1) r.n = true) :
  Hop X L h o (.ptr id off) h := fun e' he' => by
 obtain ⟨d1, u1, u2⟩ := (E.t s es hs).kd
 rw [hk] at u2
 have hd1 : d1 = .pointer e := by cases d1 <;> simp only [tkOf] at u2 <;> cases u2 <;> rfl
 subst hd1
 have h2 := (E.t e ee he).size
 rw [ho]; simp only [opA]; rw [he'.ev hx]
 simp only [oConvert, u1, hu, convToU, hg, hn, h2, hz]
 rfl
theorem Hop.toP {s t u id off : Nat} {x : Operand} {et eu : TE} {r : Row} (ho : o.op = .convert s t x) (hx : evL L x = some (.ptr id off)) (hs : X.c.under s = some .unsafePointer) (ht : lkT tb t = some et) (hk : et.k = .ptr u) (hu : lkT tb u = some eu) (hz : Nat.beq eu.s 0 = false) (hg : h.row id = some r) (hl : liesAt X.c.P X.c.P.depth r.t (r.n / X.c.P.cellsOf r.t) off u 1 = true) :
  Hop X L h o (.ptr id off) h := fun e' he' => by
 obtain ⟨d1, u1, u2⟩ := (E.t t et ht).kd
 rw [hk] at u2
 have hd1 : d1 = .pointer u := by cases d1 <;> simp only [tkOf] at u2 <;> cases u2 <;> rfl
 subst hd1
 have h2 := (E.t u eu hu).size
 rw [ho]; simp only [opA]; rw [he'.ev hx]
 simp only [oConvert, u1, hs, convToP, hg, hl, h2, hz]
 rfl
theorem Ops.noEsc {d : Nat} {cl : Call} {f : Operand} {g : FuncId} {fn : Func} {v : AV} (hfn : X.c.P.funcs[g]? = some fn) (h1 : (fn.name == "runtime.NumGoroutine") = false) (hb : fn.body.isNone = true) (hn : Extern.findNext fn = none) (hx : Extern.find fn = some Extern.AbiNoEscape.same) (hd : o.dst = some d) (hs : Nat.ble (d + 1) sz = true) (hw : Want all L o true) (ho : o.op = .call cl) (hc : cl.callee = .value f) (hf : evL L f = some (.fn (.func g) [] []))
  (hv : evsL L cl.args.toList = some [v]) (nx : Ops X sz rd all rest k ((d, v) :: L) h m Q) : Ops X sz rd all (o :: rest) k L h m Q := ⟨fun e0 he => by
 have _ := E
 refine TriOps.cons (hw e0 he) (K := fun s' => RunK X sz rd k Q .normal s') ?_
 intro ro ρ w a next Q' g1 p g3 g4 g5
 refine ⟨fun _ _ => trivial, ?_⟩
 rw [show (wideR ro).round = ro from rfl, Oper.semAt_eq ro a.eval o (by rw [ho]; intro d q; cases q)]
 have hfv := ev_ok g3 f
 rw [he.ev hf] at hfv
 simp only [VR, VRs, FR] at hfv
 obtain ⟨f', F, C, e1, rfl, rfl, e4⟩ := hfv
 subst e1
 have hargs := evs_ok g3 cl.args.toList
 rw [he.evs hv] at hargs
 simp only [VRs] at hargs
 obtain ⟨z, r0, hz, rfl, hl⟩ := hargs
 have hrun : (execOp a.eval o).run X.c.P w = .ok (.value z) w := by
  have hcall : (callFunc g #[z]).run X.c.P w = .ok (.value z) w := by
   rw [run_callFunc_extern hfn h1 hb hn hx]; rfl
  rw [← hcall]
  simp only [execOp, ho, resolve, hc, e4, Deferred.ofValue, Sem.run_bind, Sem.run_pure, Result.andThen_ok, invoke]
  congr 2
  apply Array.ext'; simp [hl]
 rw [hrun]
 exact g5 v ⟨e0, h, m⟩ z w ρ ⟨e0.set und d v, by rw [hd]; exact setD_some hs, nx.run _ (he.set d v)⟩ g1 p g3 g4 hz⟩
theorem Ops.sdataO {d : Nat} {cl : Call} {x : Operand} {id n z ty : Nat} {l : List AV} (hd : o.dst = some d) (hs : Nat.ble (d + 1) sz = true) (hw : Want all L o true) (ho : o.op = .call cl) (hc : cl.callee = .builtin .unsafeSliceData) (ha : cl.args.toList = [x]) (hx : evL L x = some (.own id n z)) (hg : h.get id = .arr ty z n l) (hn : n ≠ 0)
  (nx : Ops X sz rd all rest k ((d, .optr id n 0) :: L) h m Q) : Ops X sz rd all (o :: rest) k L h m Q := ⟨fun e0 he => by
 have _ := E
 refine TriOps.cons (hw e0 he) (K := fun s' => RunK X sz rd k Q .normal s') ?_
 intro ro ρ w a next Q' g1 p g3 g4 g5
 refine ⟨fun _ _ => trivial, ?_⟩
 rw [show (wideR ro).round = ro from rfl, Oper.semAt_eq ro a.eval o (by rw [ho]; intro d q; cases q)]
 have hS : VR ρ (.own id n z) (a.eval x) := by rw [← he.ev hx]; exact ev_ok g3 x
 obtain ⟨B, C, e1, e2⟩ := own_at p.hr hg hn hS
 have hC : C ≠ 0 := by
  obtain ⟨_, ⟨q, _⟩ | ⟨B', N', C', _, q2, q3, _⟩⟩ := p.hr.av id ty z n l hg
  ·exact absurd q hn
  ·rw [e2] at q2; cases q2; omega
 have hrun : (execOp a.eval o).run X.c.P w = .ok (.value (.pointer (some ⟨B, 0, none⟩))) w := by
  obtain ⟨CS, hCS⟩ : ∃ CS, (execOp a.eval o).run X.c.P w = (builtin .unsafeSliceData cl.argTypes o.type CS (cl.args.map a.eval)).run X.c.P w :=
   ⟨_, by simp only [execOp, ho, resolve, hc, Sem.run_bind, Sem.run_pure, Result.andThen_ok, invoke]; rfl⟩
  have hargs : cl.args.map a.eval = #[a.eval x] := by apply Array.ext'; simp [ha]
  rw [hCS, hargs, e1]
  have r1 := Lib.run_unsafeSliceData_row (P := X.c.P) w cl.argTypes o.type ⟨B, 0, none⟩ n C hC
  simp [builtin, r1]
 rw [hrun]
 exact g5 (.optr id n 0) ⟨e0, h, m⟩ _ w ρ ⟨e0.set und d _, by rw [hd]; exact setD_some hs, nx.run _ (he.set d _)⟩ g1 p g3 g4 (by simp only [VR]; exact ⟨B, C, e2, rfl⟩)⟩
end
theorem weak_drop {h : Heap} {i t z n : Nat} {l : List AV} (hb : h.get i = .arr t z n l) : Weak0 (h.put i .none) h := ⟨rfl, fun j => by
 by_cases e : j = i
 ·subst e
  refine .inl ⟨by rw [Heap.get_put, if_pos rfl], fun s q e1 _ => by rw [hb] at e1; cases e1⟩
 ·exact .inr (.inl (by rw [Heap.get_put, if_neg e])), fun q => .inr rfl⟩
theorem PI.worldN {X : Cx} {ρ : Map} {h : Heap} {w w' : World} (p : PI X ρ h w) (hX : X.g = none) (hs : Same w w') {U : Nat → Prop} (hu : ∀ b, b < w.heap.size → U b → w'.heap[b]? = w.heap[b]?) (u1 : ∀ i B N, ρ i = some (B, N) → h.ok i → U B) (u2 : ∀ b, ρ.F b ≠ [] → U b) (u3 : ∀ b, X.shut b → U b) : PI X ρ h w' := by
 refine ⟨⟨fun i B N e => Nat.lt_of_lt_of_le (p.hr.lt i B N e) hs.size, fun i B N e q => ?_, p.hr.inj, p.hr.gl, fun B j x e => ?_, p.hr.sep, p.hr.av⟩, p.wf, p.fr, p.vf, p.vu, ⟨p.ext.1.trans hs, fun b hb => ?_⟩, p.mine, p.sub, p.old, p.keep, fun G hG => by rw [hX] at hG; cases hG⟩
 ·exact (p.hr.ok i B N e q).block (hu B (p.hr.lt i B N e) (u1 i B N e q))
 ·have hne : ρ.F B ≠ [] := fun q => by rw [q] at e; simp at e
  have := p.hr.fz B j x e
  unfold World.cell? at this ⊢
  have hlt := p.hr.F_lt hne
  simp only [hu B hlt (u2 B hne)]
  exact this
 ·rw [hu b (Nat.lt_of_lt_of_le hb.1 p.ext.1.size) (u3 b hb)]; exact p.ext.2 b hb
section
variable {X : Cx} {tb : List (Nat × TE)} (E : Env X.c tb) {sz : Nat} {rd : Option Nat} {all : Array Oper} {o : Oper} {rest : List Oper} {k : List It} {L : List (Nat × AV)} {h : Heap} {m : List Nat} {Q : Post}
include E
theorem Ops.ustrO {d : Nat} {cl : Call} {x y : Operand} {id n t0 t1 el : Nat} {s : List UInt8} {e ee : TE} (hd : o.dst = some d) (hs : Nat.ble (d + 1) sz = true) (hw : Want all L o true) (ho : o.op = .call cl) (hc : cl.callee = .builtin .unsafeString) (ha : cl.args.toList = [x, y]) (hts : cl.argTypes = #[t0, t1]) (hx : evL L x = some (.optr id n 0)) (hy : evL L y = some (.int .i64 n))
  (ht : lkT tb t0 = some e) (hk : e.k = .ptr el) (hel : lkT tb el = some ee) (hz : Nat.beq ee.s 1 = true) (hg : h.get id = .arr el 1 n (s.flatMap byC)) (hn : n = s.length) (h0 : s ≠ []) (hsm : n ≤ 1000000)
  (nx : Ops X sz rd all rest k ((d, sA s) :: L) (h.put id .none) m Q) (hX : X.g = none := by rfl) : Ops X sz rd all (o :: rest) k L h m Q := ⟨fun e0 he => by
 refine TriOps.cons (hw e0 he) (K := fun s' => RunK X sz rd k Q .normal s') ?_
 intro ro ρ w a next Q' g1 p g3 g4 g5
 refine ⟨fun _ _ => trivial, ?_⟩
 rw [show (wideR ro).round = ro from rfl, Oper.semAt_eq ro a.eval o (by rw [ho]; intro d q; cases q)]
 have hX1 : VR ρ (.optr id n 0) (a.eval x) := by rw [← he.ev hx]; exact ev_ok g3 x
 have hY1 : VR ρ (.int .i64 n) (a.eval y) := by rw [← he.ev hy]; exact ev_ok g3 y
 have hl0 : s.length ≠ 0 := fun q => h0 (List.length_eq_zero_iff.1 q)
 simp only [VR] at hX1 hY1
 obtain ⟨B, C, v1, ex⟩ := hX1
 obtain ⟨_, ⟨q, _⟩ | ⟨B', N, C', q1, q2, q3, q4⟩⟩ := p.hr.av id el 1 n _ hg
 ·omega
 rw [v1] at q2; cases q2
 have hok : h.ok id := by unfold Heap.ok; rw [hg]; trivial
 have hr := p.hr.ok id B N q1 hok
 rw [hg] at hr
 have hr : RowOk ρ.d ⟨el, n * 1, .leaf, s.flatMap byC, none⟩ B N w := hr
 have hF : ρ.F B = [] := p.hr.F_row q1 hok (fun r => by rw [hg]; exact fun q => by cases q)
 obtain ⟨d1, u1, u2⟩ := (E.t t0 e ht).kd
 rw [hk] at u2
 have hd1 : d1 = .pointer el := by cases d1 <;> simp only [tkOf] at u2 <;> cases u2 <;> rfl
 subst hd1
 have hu := under_eq E.k u1
 have hc1 : X.c.P.cellsOf el = 1 := by
  have hz1 := (E.t el ee hel).size
  rw [beqT hz] at hz1
  have h2 := run_size E.k hz1 w
  have h3 : (sizeOf el).run X.c.P w = .ok (X.c.P.cellsOf el) w := by
   unfold Ctx.size at hz1
   cases hi : X.c.info el with
   | none => rw [hi] at hz1; cases hz1
   | some i => exact run_sizeOf w (E.k.tys el i hi)
  rw [h3] at h2; injection h2
 have hsl : (s.flatMap byC).length = n := by rw [byC_len]; exact hn.symm
 have hcell : ∀ j x, s[j]? = some x → w.cell? ((⟨B, 0, none⟩ : Addr).add j) = some (.int .u8 x.toNat) := fun j x e => by
  have hj := (List.getElem?_eq_some_iff.1 e).1
  obtain ⟨v, w1, w2⟩ := hr.2.2.2 j (by show j < n * 1; omega)
  rw [add_off, Nat.zero_add, w1]
  have hgj : Row.get ⟨el, n * 1, .leaf, s.flatMap byC, none⟩ j = .int .u8 (x.toNat : Int) := by
   rw [row_at_n (by omega) (by omega), List.getD_eq_getElem?_getD]
   have : ∀ (s : List UInt8) (j : Nat) (x : UInt8), s[j]? = some x → (s.flatMap byC)[j]? = some (.int .u8 (x.toNat : Int)) := by
    intro s
    induction s with
    | nil => intro j x e; simp at e
    | cons c r ih =>
     intro j x e
     cases j with
     | zero => simp at e; subst e; rfl
     | succ j => simp only [List.flatMap_cons, byC, List.cons_append, List.nil_append, List.getElem?_cons_succ]; exact ih j x (by simpa using e)
   rw [this s j x e]; rfl
  rw [hgj] at w2
  simp only [VR] at w2
  rw [w2]
 have hrun : (execOp a.eval o).run X.c.P w = .ok (.value (.string ⟨s.toArray⟩)) (w.freeze ⟨B, 0, none⟩ s.length) := by
  obtain ⟨CS, hCS⟩ : ∃ CS, (execOp a.eval o).run X.c.P w = (builtin .unsafeString cl.argTypes o.type CS (cl.args.map a.eval)).run X.c.P w :=
   ⟨_, by simp only [execOp, ho, resolve, hc, Sem.run_bind, Sem.run_pure, Result.andThen_ok, invoke]; rfl⟩
  have hargs : cl.args.map a.eval = #[a.eval x, a.eval y] := by apply Array.ext'; simp [ha]
  rw [hCS, hargs, ex, hY1, hts, hn]
  have r1 := Lib.run_unsafeString_row (P := X.c.P) w t0 t1 o.type el hu hc1 B N (by rw [hr.1]) s h0 (by have := hr.2.1; have : n * 1 ≤ N := this; omega) (by omega) hcell
  simp [builtin, r1]
 rw [hrun]
 have p1 : PI X ρ (h.put id .none) w := p.good ((Good.refl p.hr p.wf).weak0 (weak_drop hg) (fun j r e => by
  rw [Heap.get_put]
  by_cases q : j = id
  ·subst q; rw [hg] at e; cases e
  ·rw [if_neg q]; exact e)) (ArrKeep.put rfl)
 have p2 : PI X ρ (h.put id .none) (w.freeze ⟨B, 0, none⟩ s.length) := p1.worldN hX (same_freeze _ _ _) (U := fun b => b ≠ B) (fun b _ q => freeze_block w B 0 _ q) (fun i D M e1 o1 e2 => by
   subst e2
   by_cases hid : i = id
   ·subst hid; unfold Heap.ok at o1; rw [Heap.get_put, if_pos rfl] at o1; exact o1
   ·have hgi : (h.put id .none).get i = h.get i := by rw [Heap.get_put, if_neg hid]
    have o2 : h.ok i := (Heap.ok_same hgi (fun _ _ _ _ => rfl)).1 o1
    obtain ⟨r, s', q, a1, a2, _⟩ := p.hr.inj i id D M N hid e1 q1 o2 hok
    rw [hg] at a2; cases a2) (fun b e1 e2 => e1 (e2 ▸ hF)) (fun b e1 e2 => p.mine id B N q1 (e2 ▸ e1))
 exact g5 (sA s) ⟨e0, _, m⟩ _ _ ρ ⟨e0.set und d _, by rw [hd]; exact setD_some hs, nx.run _ (he.set d _)⟩ g1 p2 g3 g4 (by
  simp only [sA, VR, bs]
  congr 1
  rw [List.map_map]
  have e : (UInt8.ofNat ∘ UInt8.toNat) = (fun x : UInt8 => x) := by funext x; simp
  rw [e, List.map_id'])⟩
end
end Go.Px
end
section
namespace Go.Px
section
variable {X : Cx} {sz : Nat} {rd : Option Nat} {all : Array Oper} {rest : List Oper} {k : List It} {L : List (Nat × AV)} {h : Heap} {m : List Nat} {Q : Post} {o : Oper}
theorem Hop.nilC {x : Operand} {id off : Nat} (ho : o.op = .nilCheck x) (hx : evL L x = some (.ptr id off)) : Hop X L h o (.ptr id off) h := fun e he => by
 rw [ho]; simp only [opA]; rw [he.ev hx]; rfl
theorem Go.condNn {t : Nat} {c d : Code} {p : Prop} (hb : lkO L t = some (.bool (!bd p))) (hp : ¬ p) (g1 : Go X sz rd (.code c :: k) ((t, .bool true) :: L) h m Q) : Go X sz rd (.code (.cond (.tmp t) c d) :: k) L h m Q := Go.condNt hb (fun _ => g1) fun q => absurd q hp
theorem Ops.gNn {d : Nat} {p : Prop} (hg : gslot all rest = some d) (hb : lkO L d = some (.bool (!bd p))) (hp : ¬ p) (n1 : Ops X sz rd all rest k ((d, .bool true) :: L) h m Q) : Ops X sz rd all rest k L h m Q := Ops.gN hg hb (fun _ => n1) fun q => absurd q hp
end
end Go.Px
end
section
namespace Go.Px
def selL (base : List (Nat × AV)) (D : Nat) : List (Nat × Nat × Nat × AV) → List (Nat × AV)
 | [] => base
 | (i, u, p) :: r => match bitB (2 * D + 1) i with | true => (match bitB (2 * D + 1) u with | true => selL base D r | false => p :: selL base D r) | false => selL base D r
theorem TriOps.mono {X : Cx} {sz : Nat} {rd : Option Nat} {all : Array Oper} {rest : List Oper} {s : St} {K K' : St → Prop} (h : TriOps X sz rd all rest s K) (g : ∀ s', K s' → K' s') : TriOps X sz rd all rest s K' :=
 fun is his ro ρ w a Q' h1 h2 h3 h4 h5 => h is his ro ρ w a Q' h1 h2 h3 h4 (fun s' a' w' ρ' q => h5 s' a' w' ρ' (g s' q))
def eqN : List Nat → List Nat → Bool
 | [], [] => true
 | a :: l, b :: r => Nat.beq a b && eqN l r
 | _, _ => false
theorem eqN_eq : ∀ {l r : List Nat}, eqN l r = true → l = r
 | [], [], _ => rfl
 | a :: l, b :: r, h => by
  have h : (Nat.beq a b && eqN l r) = true := h
  rw [Bool.and_eq_true] at h
  rw [beqT h.1, eqN_eq h.2]
 | [], _ :: _, h => by cases h
 | _ :: _, [], h => by cases h
noncomputable def lvChk (ops : List Oper) (Df : Nat) : List (List (Nat × List Nat)) → Bool
 | [] => false
 | l :: r => match r with
  | [] => l.all fun p => Nat.beq p.1 Df && eqN (rdy ops p.1) []
  | l2 :: _ => (l.all fun p => (match p.2 with | [] => false | _ :: _ => true) && eqN (rdy ops p.1) p.2 && p.2.all fun i => l2.any fun E => Nat.beq E.1 (orB p.1 (bit1 i))) && lvChk ops Df r
section
variable (X : Cx) (sz : Nat) (rd : Option Nat) (all : Array Oper) (m : List Nat) (Lf : Nat → List (Nat × AV)) (Hf : Nat → Heap)
def DagO (D : Nat) : List Nat → Prop
 | [] => True
 | i :: r => (∃ o, nth1 all.toList i = some o ∧ Ops X sz rd all [o] [] (Lf D) (Hf D) m (Mid (Lf (orB D (bit1 i))) (Hf (orB D (bit1 i))) m)) ∧ DagO D r
def DagL : List (Nat × List Nat) → Prop
 | [] => True
 | p :: r => DagO X sz rd all m Lf Hf p.1 p.2 ∧ DagL r
def DagV : List (List (Nat × List Nat)) → Prop
 | [] => True
 | l :: r => DagL X sz rd all m Lf Hf l ∧ DagV r
end
section
variable {X : Cx} {sz : Nat} {rd : Option Nat} {all : Array Oper} {m : List Nat} {Lf : Nat → List (Nat × AV)} {Hf : Nat → Heap}
theorem DagO.at_ {D : Nat} : ∀ {l : List Nat}, DagO X sz rd all m Lf Hf D l → ∀ i ∈ l, ∃ o, nth1 all.toList i = some o ∧ Ops X sz rd all [o] [] (Lf D) (Hf D) m (Mid (Lf (orB D (bit1 i))) (Hf (orB D (bit1 i))) m)
 | [], _, i, hi => by cases hi
 | j :: r, h, i, hi => by
  rcases List.mem_cons.1 hi with rfl | hi
  ·exact h.1
  ·exact DagO.at_ h.2 i hi
theorem DagL.at_ : ∀ {l : List (Nat × List Nat)}, DagL X sz rd all m Lf Hf l → ∀ p ∈ l, DagO X sz rd all m Lf Hf p.1 p.2
 | [], _, i, hi => by cases hi
 | j :: r, h, i, hi => by
  rcases List.mem_cons.1 hi with rfl | hi
  ·exact h.1
  ·exact DagL.at_ h.2 i hi
theorem dag_run {Df : Nat} : ∀ (Lv : List (List (Nat × List Nat))) (l : List (Nat × List Nat)), lvChk all.toList Df (l :: Lv) = true → DagV X sz rd all m Lf Hf (l :: Lv) → ∀ p ∈ l, Go X sz rd [] (Lf p.1) (Hf p.1) m (AnyQ X sz rd all Lv.length p.1 [] (Mid (Lf Df) (Hf Df) m))
 | [], l, hc, _, p, hD => by
  have hc : (l.all fun p => Nat.beq p.1 Df && eqN (rdy all.toList p.1) []) = true := hc
  have := List.all_eq_true.1 hc p hD
  rw [Bool.and_eq_true] at this
  obtain ⟨h1, h2⟩ := this
  rw [beqT h1] at h2 ⊢
  exact Go.anyEnd (eqN_eq h2) (Go.nil fun e he => ⟨rfl, e, rfl, he⟩)
 | l2 :: r, l, hc, H, p, hD => by
  have hc : ((l.all fun p => (match p.2 with | [] => false | _ :: _ => true) && eqN (rdy all.toList p.1) p.2 && p.2.all fun i => l2.any fun E => Nat.beq E.1 (orB p.1 (bit1 i))) && lvChk all.toList Df (l2 :: r)) = true := hc
  rw [Bool.and_eq_true] at hc
  obtain ⟨hc1, hc2⟩ := hc
  have ih := dag_run r l2 hc2 H.2
  have hq := List.all_eq_true.1 hc1 p hD
  rw [Bool.and_eq_true, Bool.and_eq_true] at hq
  obtain ⟨⟨q1, q0⟩, q2⟩ := hq
  have hO := DagL.at_ H.1 p hD
  have q0 := eqN_eq q0
  obtain ⟨D, rs⟩ := p
  cases rs with
  | nil => cases q1
  | cons i0 r0 =>
   refine Go.anyStep (ready_ne q0) fun i hi => ?_
   rw [q0] at hi
   obtain ⟨o, ho, n⟩ := hO.at_ i hi
   refine ⟨o, ho, ⟨fun e he => (n.run e he).mono fun s' q => ?_⟩⟩
   have q3 := List.all_eq_true.1 q2 i hi
   obtain ⟨E, hE, hE2⟩ := List.any_eq_true.1 q3
   have g := ih E hE
   rw [beqT hE2] at g
   obtain ⟨_, e', rfl, he'⟩ : Mid (Lf (orB D (bit1 i))) (Hf (orB D (bit1 i))) m .normal s' := q
   exact g.run e' he'
theorem Go.dag {k : List It} {L : List (Nat × AV)} {h : Heap} {Q : Post} {id : Nat} (Df : Nat) (hm : X.c.P.follows .mixedOrders = true) (Lf : Nat → List (Nat × AV)) (Hf : Nat → Heap) (rs : List Nat) (Lv : List (List (Nat × List Nat))) (hc : lvChk all.toList Df ([(0, rs)] :: Lv) = true) (hn : Nat.beq Lv.length all.toList.length = true) (hL : SubL L (Lf 0)) (hh : h = Hf 0)
  (H : DagV X sz rd all m Lf Hf ([(0, rs)] :: Lv)) (n2 : Go X sz rd k (Lf Df) (Hf Df) m Q) : Go X sz rd (.code (.region id all true) :: k) L h m Q := by
 subst hh
 refine Go.mid (Lf Df) (Hf Df) (Go.anyD hm ?_) n2
 have := dag_run Lv [(0, rs)] hc H (0, rs) (List.mem_singleton.2 rfl)
 rw [beqT hn] at this
 exact Go.sub hL this
theorem Ops.midE {L L' : List (Nat × AV)} {h : Heap} (hs : SubL L L') : Ops X sz rd all [] [] L h m (Mid L' h m) := Ops.nil (Go.midE hs)
theorem Ops.midQ {L L' : List (Nat × AV)} {h : Heap} {bs : List AB} {N : Nat} (hg : ∀ i r, X.c.g0.get i ≠ .gl r) (hN : bs.length = N) (hs : SubL L L') (hlow : lowL N L' = true) (hn : Nat.ble N h.nxt = true) (hb : getsP h bs 0) (hbl : lowsP N bs)
  (hm : (m.all fun i => Nat.ble (i + 1) N) = true) (hrd : rdLow N rd = true) (hG : lowsB N X.gv = true := by rfl) (hz : X.g = none ∨ Nat.ble 2 N = true := by first | exact .inl rfl | exact .inr rfl) : Ops X sz rd all [] [] L h m (Mid L' (hq N bs) m) := by
 subst hN
 exact Ops.change (Chg.cut bs hg hs hlow hn hb hbl hm hrd hG hz) (Ops.nil (Go.nil fun e he => ⟨rfl, e, rfl, he⟩))
end
end Go.Px
end
section
namespace Go.Px
theorem Go.meet {X : Cx} {sz : Nat} {rd : Option Nat} {k : List It} {L : List (Nat × AV)} {h : Heap} {m : List Nat} {Q : Post} {c : Code} (L' : List (Nat × AV)) (h' : Heap) (n2 : Go X sz rd k L' h' m Q) (n1 : Go X sz rd k L' h' m Q → Go X sz rd (.code c :: k) L h m Q) : Go X sz rd (.code c :: k) L h m Q := n1 n2
end Go.Px
end
section
namespace Go.Px
open Go.Deep Go.ChangeShapes Go.WideShapes
theorem KOkW.calls {c : Ctx} (k : CtxOk c) {f : FuncId} {fn : Func} (hf : c.P.funcs[f]? = some fn) (hb : fn.body.isSome = true) {args : List AV} {v : AV} {W : World} (hk : KOkW c W f args v) {A : List Value} (hA : VRs (fzm (held0 W)) args A) : Calls c.P f A.toArray W fun e W' => ∃ z, e = .returned z ∧ ExtW W W' ∧ ∃ ρ, VR ρ v z := by
 obtain ⟨nx, w1, q1, q2⟩ := hk (held0 W) W A ⟨Same.refl W, fun _ _ => rfl⟩ (held0_fz W) hA
 obtain ⟨bd, hbd⟩ := Option.isSome_iff_exists.1 hb
 have hnm : fn.name ≠ "runtime.NumGoroutine" := by simpa using k.names f fn hf
 have hcall : (callFunc f A.toArray).run c.P W = .ok (.enter f A.toArray) W := by simp [callFunc, hf, hnm, hbd]
 rw [hcall] at q1
 cases q1
 have q3 : CallsIn Fence.wide 0 c.P f A.toArray W (EndR _) := q2
 refine (callsIn_wide.1 q3).mono fun e w' r => ?_
 cases e with
 | returned z =>
  obtain ⟨g, F', _, _, _, hv⟩ := r
  exact ⟨z, rfl, g, fzm F', hv⟩
 | panicked ch => exact r.elim
 | outgrown => exact r.elim
end Go.Px
end
