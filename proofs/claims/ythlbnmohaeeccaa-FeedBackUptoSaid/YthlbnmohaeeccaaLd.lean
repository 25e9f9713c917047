/- Parts of the proof in YthlbnmohaeeccaaFin: FeBg, FeBh, FeBj. -/
import Derived.Test.YthlbnmohaeeccaaK4
set_option linter.unusedVariables false
set_option linter.unusedSimpArgs false
section
set_option maxHeartbeats 4000000
set_option maxRecDepth 20000
namespace Go.Px.Fe
open Go.Proofs Go.Px.Fs
attribute [local irreducible] Go.Px.KOk
def pT : Str → Option (Str × Nat)
 | [] => none
 | [_] => none
 | c :: d :: r => if c.toNat ≠ 0 then (pT (d :: r)).map (fun p => (c :: p.1, p.2 + 1)) else if d.toNat = 1 then some ([], 2) else if d.toNat = 255 then (pT r).map (fun p => (c :: p.1, p.2 + 2)) else none
theorem pT_c {c d : UInt8} {r : Str} (h : c.toNat ≠ 0) : pT (c :: d :: r) = (pT (d :: r)).map (fun p => (c :: p.1, p.2 + 1)) := by rw [pT.eq_def]; simp only []; rw [if_pos h]
theorem pT_1 {c d : UInt8} {r : Str} (h : c.toNat = 0) (k : d.toNat = 1) : pT (c :: d :: r) = some ([], 2) := by rw [pT.eq_def]; simp only []; rw [if_neg (by omega), if_pos k]
theorem pT_255 {c d : UInt8} {r : Str} (h : c.toNat = 0) (k : d.toNat = 255) : pT (c :: d :: r) = (pT r).map (fun p => (c :: p.1, p.2 + 2)) := by rw [pT.eq_def]; simp only []; rw [if_neg (by omega), if_neg (by omega), if_pos k]
theorem pT_n {c d : UInt8} {r : Str} (h : c.toNat = 0) (k1 : d.toNat ≠ 1) (k : d.toNat ≠ 255) : pT (c :: d :: r) = none := by rw [pT.eq_def]; simp only []; rw [if_neg (by omega), if_neg k1, if_neg k]
noncomputable def vaO (v : Va) (n : Nat) : Option (Va × Nat) := bif bd (VaP v) then some (v, n) else none
noncomputable def pV (b : Str) : Option (Va × Nat) :=
 if b.length < 2 then none
 else if ((b.getD 0 default).toNat : Int) = 2 then vaO ⟨2, (b.getD 1 default).toNat, []⟩ 2
 else if ((b.getD 0 default).toNat : Int) = 1 ∨ ((b.getD 0 default).toNat : Int) = 5 ∨ ((b.getD 0 default).toNat : Int) = 6 then
  (if b.length < 9 then none else vaO ⟨(b.getD 0 default).toNat, num8 ((b.drop 1).take 8), []⟩ 9)
 else if txtK (b.getD 0 default).toNat then
  (match pT (b.drop 1) with | none => none | some p => vaO ⟨(b.getD 0 default).toNat, 0, p.1⟩ (p.2 + 1))
 else none
theorem pV_s {b : Str} (h : b.length < 2) : pV b = none := if_pos h
theorem pV_2 {b : Str} (h : ¬ b.length < 2) (h2 : ((b.getD 0 default).toNat : Int) = 2) : pV b = vaO ⟨2, (b.getD 1 default).toNat, []⟩ 2 := by
 unfold pV; rw [if_neg h, if_pos h2]
theorem pV_ns {b : Str} (h2 : ¬ ((b.getD 0 default).toNat : Int) = 2) (h1 : ((b.getD 0 default).toNat : Int) = 1 ∨ ((b.getD 0 default).toNat : Int) = 5 ∨ ((b.getD 0 default).toNat : Int) = 6) (h9 : b.length < 9) : pV b = none := by
 unfold pV; rw [if_neg h2, if_pos h1, if_pos h9]; simp
theorem pV_n {b : Str} (h2 : ¬ ((b.getD 0 default).toNat : Int) = 2) (h1 : ((b.getD 0 default).toNat : Int) = 1 ∨ ((b.getD 0 default).toNat : Int) = 5 ∨ ((b.getD 0 default).toNat : Int) = 6) (h9 : ¬ b.length < 9) : pV b = vaO ⟨(b.getD 0 default).toNat, num8 ((b.drop 1).take 8), []⟩ 9 := by
 unfold pV; rw [if_neg (show ¬ b.length < 2 by omega), if_neg h2, if_pos h1, if_neg h9]
theorem pV_o {b : Str} (h2 : ¬ ((b.getD 0 default).toNat : Int) = 2) (h1 : ¬ (((b.getD 0 default).toNat : Int) = 1 ∨ ((b.getD 0 default).toNat : Int) = 5 ∨ ((b.getD 0 default).toNat : Int) = 6)) (ht : ¬ txtK (b.getD 0 default).toNat) : pV b = none := by
 unfold pV; rw [if_neg h2, if_neg h1, if_neg ht]; simp
theorem pV_t {b : Str} (h : ¬ b.length < 2) (ht : txtK (b.getD 0 default).toNat) : pV b = (match pT (b.drop 1) with | none => none | some p => vaO ⟨(b.getD 0 default).toNat, 0, p.1⟩ (p.2 + 1)) := by
 have ht' := ht
 unfold txtK at ht'
 unfold pV; rw [if_neg h, if_neg (by omega), if_neg (by omega), if_pos ht]
theorem vaO_t {v : Va} {n : Nat} (h : VaP v) : vaO v n = some (v, n) := by unfold vaO; rw [bd_of h]; rfl
theorem vaO_f {v : Va} {n : Nat} (h : ¬ VaP v) : vaO v n = none := by unfold vaO; rw [bd_no h]; rfl
end Go.Px.Fe
end
section
set_option maxHeartbeats 4000000
set_option maxRecDepth 20000
namespace Go.Px.Fe
open Go.Proofs Go.Px.Fs
attribute [local irreducible] Go.Px.KOk
end Go.Px.Fe
end
section
set_option maxHeartbeats 4000000
set_option maxRecDepth 20000
namespace Go.Px.Fe
open Go.Proofs Go.Px.Fs
attribute [local irreducible] Go.Px.KOk
theorem vaO_some {v : Va} {n : Nat} {p : Va × Nat} (h : vaO v n = some p) : VaP v ∧ p = (v, n) := by
 by_cases hv : VaP v
 ·rw [vaO_t hv] at h; exact ⟨hv, (Option.some.inj h).symm⟩
 ·rw [vaO_f hv] at h; cases h
noncomputable def pP (k : Bool) (b : Str) : Option (Pt × Str) := match k with
 | true => (pV b).map fun p => (sdP p.1, b.drop p.2)
 | false => if b.length < 8 then none else some (nmP (num8 (b.take 8)), b.drop 8)
noncomputable def pPs : List Bool → Str → Option (List Pt × Str)
 | [], b => some ([], b)
 | k :: ks, b => (pP k b).bind fun q => (pPs ks q.2).map fun x => (q.1 :: x.1, x.2)
end Go.Px.Fe
end
