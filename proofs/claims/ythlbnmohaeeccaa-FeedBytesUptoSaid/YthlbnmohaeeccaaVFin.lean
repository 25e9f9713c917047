/- FeedBytes: whatever the transactions and the bytes, within the bound, the law answers true: by walks (Fe.., Fs..) over the P-layer (Px..), and a plain law on bytes. -/
import Derived.Test.YthlbnmohaeeccaaVLp
import Derived.Test.YthlbnmohaeeccaaVLq
import Derived.Test.YthlbnmohaeeccaaVK4
set_option linter.unusedVariables false
set_option linter.unusedSimpArgs false
section
namespace Go.Proofs.Ythlbnmohaeeccaa.feedBytes
open Go.ChangeShapes Go.WideShapes Go.ChangeAt Go.RowKit feedIn
set_option maxRecDepth 100000
theorem contract (H : Type) (enc : TypeId × Value → H) (W : World) (base : Nat) (args : Array Value) (ds gs : List (DataW H)) (before : List MemPlace)
  (hval : ∀ (j : Nat) t v, Try.f3.params[j]? = some t → args[j]? = some v → Value.okWide Try.prog W .any base t v)
  (hW : DataW.Whole enc Try.prog Try.f3.params.toList Rows.feedBytesSpec.vars false W args.toList ds gs before) (hk : Rows.uptoSmall H (ds ++ gs) = true) :
  Calls Try.prog 3 args W fun e W' => ∃ v, e = .returned v ∧ Rows.feedBytesSpec.post enc Try.prog Try.f3 false true false false W args v W' := by
 have hW' := hW
 have hold := hW.lt
 obtain ⟨p, q, hA0, hV, rfl, hfz, hnd⟩ := hW
 have hA : DataW.TrodAll enc Try.prog W 0 (fun _ => true) true Try.f3.params.toList args.toList ds p := hA0
 have hAk := hA
 rw [Try.params3] at hA hval
 obtain ⟨v0, vs0, d0, ds0, p0, q0, hargs, rfl, rfl, h0, r0⟩ := trodAll_cons hA
 obtain ⟨v1, vs1, d1, ds1, p1, q1, rfl, rfl, rfl, h1, r1⟩ := trodAll_cons r0
 obtain ⟨rfl, rfl, rfl⟩ := trodAll_nil r1
 obtain rfl : args = #[v0, v1] := by cases args; simp_all
 obtain ⟨rfl, rfl⟩ := trodVars_none hV
 have hbulk := bulks.bound hk
 simp only [List.append_nil, Rows.uptoBulkAll] at hbulk
 obtain ⟨n0, h0⟩ := h0
 obtain ⟨n1, h1⟩ := h1
 obtain ⟨a0, l0, k0, rfl⟩ := okWide_slice Try.underlying22 (hval 0 22 v0 rfl rfl)
 obtain ⟨a1, l1, k1, rfl⟩ := okWide_slice Try.underlying23 (hval 1 23 v1 rfl rfl)
 obtain ⟨a, ha, h1a, h1b, h1c, h1d⟩ := read22 (n := n0) (y := (d0, p0)) h0 (by show Rows.uptoBulk d0 ≤ _; omega)
 obtain ⟨b, hb, hb1⟩ := read23 (n := n1) (y := (d1, p1)) h1 (by show Rows.uptoBulk d1 ≤ _; omega)
 have hb8 : b.length ≤ 100000000 := by omega
 have hA2 : Px.VRs (Px.fzm (Px.held0 W)) [Px.Fe.txsA a, Px.Fe.bysA b] [.slice a0 l0 k0, .slice a1 l1 k1] := by
  simp only [Px.VRs]
  exact ⟨_, _, ha, ⟨_, _, hb, rfl, rfl⟩, rfl⟩
 refine (show Calls Try.prog 3 #[.slice a0 l0 k0, .slice a1 l1 k1] W _ from Px.KOk.calls Px.Fs.cF_ok Try.func3 rfl (Px.Fe.kL3 a b h1a h1b h1c hb8 ) hA2).mono fun e W' ⟨z, he, hx, ρ, hz⟩ => ?_
 simp only [Px.VR] at hz
 subst hz; subst he
 exact ⟨_, rfl, _, _, _, [], _, [], hW', trodAll_mk1 (shut_bool Try.underlying4 _),
  DataW.TrodAll.respare kids full (by rw [Try.params3]; exact of_decide_eq_true (by kernel_rfl)) (Px.trodAll_carry hAk fun x hq => Px.ext_same hx (hold x (List.mem_append_left _ hq))) (fun x hq => by simpa using hold x (List.mem_append_left _ hq)),
  rfl, Px.ext_kept hx _, fun h => by cases h⟩
set_option maxRecDepth 100000 in
theorem lifted (os : Os) (started : os.Started) (H : Type) (enc : TypeId × Value → H) (F : Stop.Interp) :
  ReturnsInHanded {} Try.checked os 3 .any ((Rows.OpenSpec.upto Rows.feedBytesSpec).pre6 enc Try.prog Try.f3 Rows.feedBytesUptoRow.domain false) (((Rows.OpenSpec.upto Rows.feedBytesSpec).at F).post enc Try.prog Try.f3 false true false false) := by
 refine returnsInHanded_of_cond (C := Try.checked) (s := Rows.OpenSpec.upto Rows.feedBytesSpec) (k := Rows.uptoSmall) rfl own started (by kernel_rfl) Try.func3
  (OpenSpec.witness (enc := enc) (C := Try.checked) (s := Rows.OpenSpec.upto Rows.feedBytesSpec) (k := Rows.uptoSmall) rfl false ⟨#[], #[.slice none 0 0, .slice none 0 0], []⟩ 8 (by kernel_rfl) (by kernel_rfl) (by kernel_rfl)
   (x := ([.nil, .nil], [], [])) (by kernel_rfl) rfl (by kernel_rfl)) ?_
 intro W base args ds gs before hval hW _ hk _
 exact contract H enc W base args ds gs before hval hW hk
theorem proved : Rows.FeedBytesUptoSaid :=
 OpenClaim.holds_of_cond 3 Try.f3 rfl rfl rfl rfl rfl rfl rfl ⟨rfl, rfl, rfl, rfl, rfl⟩ rfl rfl rfl rfl rfl (by kernel_rfl) Try.func3 (by kernel_rfl)
  (of_decide_eq_true (by kernel_rfl)) (by unfold Func.isWrapper; first | (rw [if_pos (by decide +kernel)]; kernel_rfl) | (rw [if_neg (by decide +kernel)]; exact ⟨rfl, rfl⟩))
  (fun os started H enc _ F => lifted os started H enc F)
end Go.Proofs.Ythlbnmohaeeccaa.feedBytes
end
