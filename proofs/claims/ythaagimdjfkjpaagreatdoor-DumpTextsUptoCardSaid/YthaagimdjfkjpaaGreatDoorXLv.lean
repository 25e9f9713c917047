/- Parts of the proof in YthaagimdjfkjpaaGreatDoorXFin: DuRow. -/
import Derived.Test.YthaagimdjfkjpaaGreatDoorXLr
import Derived.Test.YthaagimdjfkjpaaGreatDoorXLu
import Derived.Test.YthaagimdjfkjpaaGreatDoorXK4
import Derived.ProofKit
import Derived.OpenShut
import Derived.JoinedCond
import Derived.LaidMore
import Derived.Stop.LaidErr
import Derived.Shelf.Vars
import Derived.Deep.DeepWitnessRowRef
set_option linter.unusedVariables false
set_option linter.unusedSimpArgs false
section
namespace Go.Proofs.YthaagimdjfkjpaaGreatDoor.dumpTexts
open Go.ChangeShapes Go.WideShapes Go.ChangeAt Go.RowKit dumpIn
set_option maxRecDepth 100000
theorem tab0 : (Rows.laid_internal_strconv_uint64pow10 : DataW Unit) = Lib.tabData .u64 Lib.pow10Tab := by kernel_rfl
theorem c141 : Tryz.prog.cellsOf 141 = 20 := by kernel_rfl
theorem c134 : Tryz.prog.cellsOf 134 = 1 := by kernel_rfl
theorem tab {W : World} (hL0 : laidMetH Tryz.prog Rows.dumpTextsUptoRow.laid W) : Px.Du.TabW W := by
 have hL : laidMet Tryz.prog Rows.dumpTextsUptoRow.laid W := hL0
 have h2 : laidMet Tryz.prog [("internal/strconv.uint64pow10", Rows.laid_internal_strconv_uint64pow10)] W := (hL.tail).tail
 rw [tab0] at h2
 exact Lib.tabIs_of_head (P := Tryz.prog) (g := 1) (t := 141) (e := 134) (n := 20) (by kernel_rfl) (by kernel_rfl) Tryz.underlying141 Tryz.underlying134 c134 c141 h2
theorem contract (H : Type) (enc : TypeId × Value → H) (W : World) (base : Nat) (args : Array Value) (ds gs : List (DataW H)) (before : List MemPlace)
  (hval : ∀ (j : Nat) t v, Tryz.f3.params[j]? = some t → args[j]? = some v → Value.okWide Tryz.prog W .any base t v)
  (hW : DataW.Whole enc Tryz.prog Tryz.f3.params.toList Rows.dumpTextsSpec.vars false W args.toList ds gs before) (hk : Rows.uptoSmall H (ds ++ gs) = true) (hL : laidMetH Tryz.prog Rows.dumpTextsUptoRow.laid W) (hsh : W.ShapedOpen Tryz.prog) :
  Calls Tryz.prog 3 args W fun e W' => ∃ v, e = .returned v ∧ Rows.dumpTextsSpec.post enc Tryz.prog Tryz.f3 false true false false W args v W' := by
 have hW' := hW
 have hold := hW.lt
 obtain ⟨p, q, hA0, hV, rfl, hfz, hnd⟩ := hW
 have hA : DataW.TrodAll enc Tryz.prog W 0 (fun _ => true) true Tryz.f3.params.toList args.toList ds p := hA0
 have hAk := hA
 rw [Tryz.params3] at hA hval
 obtain ⟨v0, vs0, d0, ds0, p0, q0, hargs, rfl, rfl, h0, r0⟩ := trodAll_cons hA
 obtain ⟨rfl, rfl, rfl⟩ := trodAll_nil r0
 obtain rfl : args = #[v0] := by cases args; simp_all
 obtain ⟨rfl, rfl⟩ := trodVars_none hV
 have hbulk := bulks.bound hk
 simp only [List.append_nil, Rows.uptoBulkAll] at hbulk
 obtain ⟨n0, h0⟩ := h0
 obtain ⟨cs, rfl, hcs⟩ := okWide_struct Tryz.underlying24 (hval 0 24 v0 rfl rfl)
 obtain ⟨a, nx, ha, h1a, h1b, h1c, h1d⟩ := read24 (n := n0) (cs := cs.toList) (y := (d0, p0)) h0 (by show Rows.uptoBulk d0 ≤ _; omega)
 have hA2 : Px.VRs (Px.fzm (Px.held0 W)) [.agg (Px.Du.dmA a nx)] [.agg cs] := by
  simp only [Px.VRs, Px.VR]
  exact ⟨_, _, ⟨_, ha, by simp⟩, rfl, rfl⟩
 have kk : Px.KOkW Px.Ds.cF W 3 [.agg (Px.Du.dmA a nx)] (.bool true) := Px.Du.k3 (tab hL) a nx h1a h1b h1c h1d
 refine (show Calls Tryz.prog 3 #[.agg cs] W _ from Px.KOkW.calls Px.Ds.cF_ok Tryz.func3 rfl kk hA2).mono fun e W' ⟨z, he, hx, ρ, hz⟩ => ?_
 simp only [Px.VR] at hz
 subst hz; subst he
 exact ⟨_, rfl, _, _, _, [], _, [], hW', trodAll_mk1 (shut_bool Tryz.underlying4 _),
  DataW.TrodAll.respare kids full (by rw [Tryz.params3]; exact of_decide_eq_true (by kernel_rfl)) (Px.trodAll_carry hAk fun x hq => Px.ext_same hx (hold x (List.mem_append_left _ hq))) (fun x hq => by simpa using hold x (List.mem_append_left _ hq)),
  rfl, Px.ext_kept hx _, fun h => by cases h⟩
noncomputable def laidWorld (os : Os) : World := World.doorLaid Tryz.prog 200 os
theorem laid_met (os : Os) : laidMetH Tryz.prog Rows.dumpTextsUptoRow.laid ((laidWorld os).forCall (fun _ _ => 0) ⟨#[], #[.agg #[.slice none 0 0, .int .i64 0]], []⟩).memory :=
 laidMetH_of_parts3 (fuel := 8) (laidMet_of_run' 8 (by kernel_rfl) (by kernel_rfl)) (by kernel_rfl) (by kernel_rfl)
theorem reads (os : Os) {H : Type} (enc : TypeId × Value → H) : ∃ places, DataW.whole enc Tryz.prog ((laidWorld os).forCall (fun _ _ => 0) ⟨#[], #[.agg #[.slice none 0 0, .int .i64 0]], []⟩).memory Tryz.f3.params.toList Rows.dumpTextsSpec.vars false (#[.agg #[.slice none 0 0, .int .i64 0]] : Array Value).toList 8 = some ([.agg [.nil, .lit (.int .i64 0)]], [], places) :=
 ⟨[], by kernel_rfl⟩
set_option maxRecDepth 100000 in
theorem lifted (os : Os) (started : os.Started) (H : Type) (enc : TypeId × Value → H) (F : Stop.Interp) :
  ReturnsInHanded {} Tryz.checked os 3 .any ((Rows.OpenSpec.upto Rows.dumpTextsSpec).preRow enc Tryz.prog Tryz.f3 Rows.dumpTextsUptoRow.domain false Rows.dumpTextsUptoRow.laid) (((Rows.OpenSpec.upto Rows.dumpTextsSpec).at F).post enc Tryz.prog Tryz.f3 false true false false) := by
 obtain ⟨places, hx⟩ := reads os enc
 refine returnsInHanded_of_row (C := Tryz.checked) (s := Rows.OpenSpec.upto Rows.dumpTextsSpec) own started (by kernel_rfl) Tryz.func3
  (witness_row_atRef (enc := enc) (C := Tryz.checked) false (laidWorld os) #[.agg #[.slice none 0 0, .int .i64 0]] rfl (by kernel_rfl) (by kernel_rfl) (by kernel_rfl)
   (OpenSpec.preRow_of_cond 8 hx (by kernel_rfl) (fun k hk => by cases hk; kernel_rfl) (by kernel_rfl) (laid_met os))) ?_
 intro W base args ds gs before hval hW _ hcond _ hL hsh _
 exact contract H enc W base args ds gs before hval hW (hcond _ rfl) hL hsh
theorem said : Rows.DumpTextsUptoSaid :=
 OpenClaim.holds_of_cond 3 Tryz.f3 rfl rfl rfl rfl rfl rfl rfl ⟨rfl, rfl, rfl, rfl, rfl⟩ rfl rfl rfl rfl rfl (by kernel_rfl) Tryz.func3 (by kernel_rfl)
  (of_decide_eq_true (by kernel_rfl)) (by unfold Func.isWrapper; first | (rw [if_pos (by decide +kernel)]; kernel_rfl) | (rw [if_neg (by decide +kernel)]; exact ⟨rfl, rfl⟩))
  (fun os started H enc _ F => by rw [OpenClaim.pre_eq_preRow]; exact lifted os started H enc F)
end Go.Proofs.YthaagimdjfkjpaaGreatDoor.dumpTexts
end
