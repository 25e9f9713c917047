/- LedgerReads: whatever the objects, the law answers true: by walks (Lr..) over the P-layer (Px..). No condition. -/
import Derived.Test.YtdccabejobkkcaaRLj
import Derived.Test.YtdccabejobkkcaaRK4
import Derived.Test.YtdccabejobkkcaaRows
import Derived.ProofKit
import Derived.OpenShut
set_option linter.unusedVariables false
set_option linter.unusedSimpArgs false
section
namespace Go.Proofs.Ytdccabejobkkcaa.ledgerReads
open Go.ChangeShapes Go.WideShapes Go.ChangeAt Go.RowKit Go.Deep
set_option maxRecDepth 100000
theorem own : ownKnob Try.prog.godebug = none := by kernel_rfl
theorem laid : laidOutB Try.prog = true := by kernel_rfl
theorem kids : Kids Try.prog (· < Try.prog.types.size) := kids_rows laid (by kernel_rfl)
theorem full : ∀ t e, t < Try.prog.types.size → Try.prog.underlying t = some (.slice e) → 0 < Try.prog.cellsOf e := slices_full_of Try.prog (by kernel_rfl)
theorem c5 : Try.prog.cellsOf 5 = 1 := by kernel_rfl
theorem c30 : Try.prog.cellsOf 30 = 1 := by kernel_rfl
theorem wf8 {n : Int} (h : (Lit.int .u8 n).wf = true) : 0 ≤ n ∧ n ≤ 255 := by
 simpa [Lit.wf, IntKind.min, IntKind.max, IntKind.signed, IntKind.bits] using h
section
variable {H : Type} {enc : TypeId × Value → H} {W : World}
theorem el5 (n : Nat) (cs : List Value) (y : DataW H × List MemPlace) (h : DataW.trod enc Try.prog W 0 (fun _ => true) true n 5 cs = some y) : ∃ x : UInt8, Px.VRs (Px.fzm (Px.held0 W)) (Px.byC x) cs ∧ True := by
 obtain ⟨a, ha, _, wa⟩ := DataW.trod_int Try.underlying5 h
 have := wf8 wa
 subst ha
 have e : ((UInt8.ofNat a.toNat).toNat : Int) = a := by rw [UInt8.toNat_ofNat']; omega
 refine ⟨UInt8.ofNat a.toNat, ?_, trivial⟩
 simp only [Px.VRs, Px.VR, Px.byC]
 exact ⟨_, _, by rw [e], rfl, rfl⟩
theorem el30 (n : Nat) (cs : List Value) (y : DataW H × List MemPlace) (h : DataW.trod enc Try.prog W 0 (fun _ => true) true n 30 cs = some y) : ∃ x : List UInt8, Px.VRs (Px.fzm (Px.held0 W)) (Px.Lr.encL x) cs ∧ True := by
 obtain ⟨v, rfl⟩ : ∃ v, cs = [v] := by
  rcases open_slice Try.underlying30 h with ⟨hv, _⟩ | ⟨a, len, cap, m, k, D, Pl, hv, _⟩
  ·exact ⟨_, hv⟩
  ·exact ⟨_, hv⟩
 obtain ⟨l, hl, _⟩ := Px.read_sliceB (en := Px.byC) (z := 1) (by omega) (fun _ => rfl) Try.underlying30 c5 (Q := fun _ _ => True) (B := fun _ => True) (fun n cs y _ h => el5 n cs y h) (fun _ _ _ _ _ => trivial) h
 refine ⟨l, ?_, trivial⟩
 simp only [Px.VRs, Px.Lr.encL]
 exact ⟨_, _, hl, rfl, rfl⟩
theorem read22 {n : Nat} {v : Value} {y : DataW H × List MemPlace} (h : DataW.trod enc Try.prog W 0 (fun _ => true) true n 22 [v] = some y) : ∃ l : List (List UInt8), Px.VR (Px.fzm (Px.held0 W)) (Px.Lr.lstA l) v := by
 obtain ⟨l, hl, _⟩ := Px.read_sliceB (en := Px.Lr.encL) (z := 1) (by omega) (fun _ => rfl) Try.underlying22 c30 (Q := fun _ _ => True) (B := fun _ => True) (fun n cs y _ h => el30 n cs y h) (fun _ _ _ _ _ => trivial) h
 exact ⟨l, hl⟩
end
theorem contract (H : Type) (enc : TypeId × Value → H) (W : World) (base : Nat) (args : Array Value) (ds gs : List (DataW H)) (before : List MemPlace)
  (hval : ∀ (j : Nat) t v, Try.f3.params[j]? = some t → args[j]? = some v → Value.okWide Try.prog W .any base t v)
  (hW : DataW.Whole enc Try.prog Try.f3.params.toList Rows.ledgerReadsSpec.vars false W args.toList ds gs before) :
  Calls Try.prog 3 args W fun e W' => ∃ v, e = .returned v ∧ Rows.ledgerReadsSpec.post enc Try.prog Try.f3 false true false false W args v W' := by
 have hW' := hW
 have hold := hW.lt
 obtain ⟨p, q, hA0, hV, rfl, hfz, hnd⟩ := hW
 have hA : DataW.TrodAll enc Try.prog W 0 (fun _ => true) true Try.f3.params.toList args.toList ds p := hA0
 have hAk := hA
 rw [Try.params3] at hA hval
 obtain ⟨v0, vs0, d0, ds0, p0, q0, hargs, rfl, rfl, h0, r0⟩ := trodAll_cons hA
 obtain ⟨rfl, rfl, rfl⟩ := trodAll_nil r0
 obtain rfl : args = #[v0] := by cases args; simp_all
 obtain ⟨rfl, rfl⟩ := trodVars_none hV
 obtain ⟨n0, h0⟩ := h0
 obtain ⟨a0, l0, k0, rfl⟩ := okWide_slice Try.underlying22 (hval 0 22 v0 rfl rfl)
 obtain ⟨l, hr⟩ := read22 (n := n0) (y := (d0, p0)) h0
 have hA2 : Px.VRs (Px.fzm (Px.held0 W)) [Px.Lr.lstA l] [.slice a0 l0 k0] := by
  simp only [Px.VRs]
  exact ⟨_, _, hr, rfl, rfl⟩
 have kk : Px.KOk Px.Lr.cF 3 [Px.Lr.lstA l] (.bool true) := Px.Lr.k3 l
 refine (show Calls Try.prog 3 #[.slice a0 l0 k0] W _ from Px.KOk.calls Px.Lr.cF_ok Try.func3 rfl kk hA2).mono fun e W' ⟨z, he, hx, ρ, hz⟩ => ?_
 simp only [Px.VR] at hz
 subst hz; subst he
 exact ⟨_, rfl, _, _, _, [], _, [], hW', trodAll_mk1 (shut_bool Try.underlying4 _),
  DataW.TrodAll.respare kids full (by rw [Try.params3]; exact of_decide_eq_true (by kernel_rfl)) (Px.trodAll_carry hAk fun x hq => Px.ext_same hx (hold x (List.mem_append_left _ hq))) (fun x hq => by simpa using hold x (List.mem_append_left _ hq)),
  rfl, Px.ext_kept hx _, fun h => by cases h⟩
set_option maxRecDepth 100000 in
theorem lifted (os : Os) (started : os.Started) (H : Type) (enc : TypeId × Value → H) :
  ReturnsInHanded {} Try.checked os 3 .any (Rows.ledgerReadsSpec.pre6 enc Try.prog Try.f3 Rows.ledgerReadsRow.domain false) (Rows.ledgerReadsSpec.post enc Try.prog Try.f3 false true false false) := by
 refine returnsInHanded_of_change (C := Try.checked) own started (by kernel_rfl) Try.func3
  (ChangeSpec.witness6 (enc := enc) (C := Try.checked) false ⟨#[], #[.slice none 0 0], []⟩ 8 (by kernel_rfl) (by kernel_rfl) (by kernel_rfl) (by kernel_rfl)) ?_
 intro W base args ds gs before hval hW hcnd _
 exact contract H enc W base args ds gs before hval hW
theorem proved : Rows.LedgerReadsSaid :=
 OpenClaim.holds_of_wide 3 Try.f3 rfl rfl rfl rfl rfl rfl rfl ⟨rfl, rfl, rfl, rfl, rfl⟩ rfl rfl rfl rfl rfl (by kernel_rfl) Try.func3 (by kernel_rfl)
  (of_decide_eq_true (by kernel_rfl)) (by unfold Func.isWrapper; first | (rw [if_pos (by decide +kernel)]; kernel_rfl) | (rw [if_neg (by decide +kernel)]; exact ⟨rfl, rfl⟩))
  (fun os started H enc _ => lifted os started H enc)
end Go.Proofs.Ytdccabejobkkcaa.ledgerReads
end
