/- FixFits: whatever the row and the arguments, within the bound, the law answers true: by walks (Fx..) over the P-layer (Px..), and a plain law on what a row says of arguments. -/
import Derived.Test.YtfngmfddoaajaaaK6
import Derived.Test.YtfngmfddoaajaaaBulk
import Derived.ProofKit
import Derived.OpenShut
import Derived.JoinedCond
/- FxRow -/
section
namespace Go.Proofs.Ytfngmfddoaajaaa.fixFits
open Go.ChangeShapes Go.WideShapes Go.ChangeAt Go.RowKit
set_option linter.unusedVariables false
set_option maxRecDepth 100000

theorem own : ownKnob Try.prog.godebug = none := by kernel_rfl
theorem laid : laidOutB Try.prog = true := by kernel_rfl
theorem kids : Kids Try.prog (· < Try.prog.types.size) := kids_rows laid (by kernel_rfl)
theorem full : ∀ t e, t < Try.prog.types.size → Try.prog.underlying t = some (.slice e) → 0 < Try.prog.cellsOf e := slices_full_of Try.prog (by kernel_rfl)
theorem c2 : Try.prog.cellsOf 2 = 1 := by kernel_rfl
theorem c3 : Try.prog.cellsOf 3 = 1 := by kernel_rfl
theorem c9 : Try.prog.cellsOf 9 = 1 := by kernel_rfl
theorem c29 : Try.prog.cellsOf 29 = 3 := by kernel_rfl
theorem c50 : Try.prog.cellsOf 50 = 4 := by kernel_rfl

section
variable {H : Type} {enc : TypeId × Value → H} {W : World}
/-- a value that came in -/
def VaQ (x : Px.Fx.Va) (d : DataW H) : Prop := x.s.length ≤ Rows.uptoBulk d
theorem el29 (n : Nat) (cs : List Value) (y : DataW H × List MemPlace) (h : DataW.trod enc Try.prog W 0 (fun _ => true) true n 29 cs = some y) : ∃ x : Px.Fx.Va, Px.VRs (Px.fzm (Px.held0 W)) (Px.Fx.encVa x) cs ∧ VaQ x y.1 := by
  obtain ⟨xs, k, rfl, rfl, hlen, hxl, hf⟩ := DataW.trod_struct Try.underlying29 h
  rw [c29] at hlen
  match cs, hlen with
  | [p0, p1, p2], _ =>
    match xs, hxl with
    | [x0, x1, x2], _ =>
      have g0 : DataW.trod enc Try.prog W 0 (fun _ => true) true k 3 [p0] = some x0 := by have := hf 0 _ rfl; simpa [c3] using this
      have g1 : DataW.trod enc Try.prog W 0 (fun _ => true) true k 2 [p1] = some x1 := by have := hf 1 _ rfl; simpa [c2] using this
      have g2 : DataW.trod enc Try.prog W 0 (fun _ => true) true k 9 [p2] = some x2 := by have := hf 2 _ rfl; simpa [c9] using this
      obtain ⟨vk, hk, _, _⟩ := DataW.trod_int Try.underlying3 g0
      obtain ⟨vn, hn, _, _⟩ := DataW.trod_int Try.underlying2 g1
      obtain ⟨vs, hs, hz2, _⟩ := DataW.trod_string Try.underlying9 g2
      simp only [List.cons.injEq, and_true] at hk hn hs
      subst hk; subst hn; subst hs; subst hz2
      refine ⟨⟨vk, vn, vs.data.toList⟩, ?_, ?_⟩
      · have h1 := Px.read_str (Px.fzm (Px.held0 W)) vs
        simp only [Px.Fx.encVa, Px.VRs, Px.VR]
        exact ⟨_, _, rfl, ⟨_, _, rfl, ⟨_, _, h1, rfl, rfl⟩, rfl⟩, rfl⟩
      · simp only [VaQ, List.map_cons, List.map_nil, Rows.uptoBulk, Rows.uptoBulkAll]; omega
/-- an argument that came in -/
def AgQ (x : Px.Fx.Ag) (d : DataW H) : Prop := x.x.length ≤ Rows.uptoBulk d ∧ x.v.s.length ≤ Rows.uptoBulk d
theorem el50 (n : Nat) (cs : List Value) (y : DataW H × List MemPlace) (h : DataW.trod enc Try.prog W 0 (fun _ => true) true n 50 cs = some y) : ∃ x : Px.Fx.Ag, Px.VRs (Px.fzm (Px.held0 W)) (Px.Fx.encAg x) cs ∧ AgQ x y.1 := by
  obtain ⟨xs, k, rfl, rfl, hlen, hxl, hf⟩ := DataW.trod_struct Try.underlying50 h
  rw [c50] at hlen
  match cs, hlen with
  | [p0, p1, p2, p3], _ =>
    match xs, hxl with
    | [x0, x1], _ =>
      have g0 : DataW.trod enc Try.prog W 0 (fun _ => true) true k 9 [p0] = some x0 := by have := hf 0 _ rfl; simpa [c9] using this
      have g1 : DataW.trod enc Try.prog W 0 (fun _ => true) true k 29 [p1, p2, p3] = some x1 := by have := hf 1 _ rfl; simpa [c29] using this
      obtain ⟨vs, hs, hz2, _⟩ := DataW.trod_string Try.underlying9 g0
      obtain ⟨v, hv, hq⟩ := el29 k _ _ g1
      simp only [List.cons.injEq, and_true] at hs
      subst hs; subst hz2
      refine ⟨⟨vs.data.toList, v⟩, ?_, ?_⟩
      · have h1 := Px.read_str (Px.fzm (Px.held0 W)) vs
        simp only [Px.Fx.encVa, Px.VRs, Px.VR] at hv
        simp only [Px.Fx.encAg, Px.VRs, Px.VR]
        exact ⟨_, _, h1, hv, rfl⟩
      · unfold VaQ at hq
        simp only [AgQ, List.map_cons, List.map_nil, Rows.uptoBulk, Rows.uptoBulkAll]; omega
/-- a row that came in -/
theorem read23 {n : Nat} {v : Value} {y : DataW H × List MemPlace} (h : DataW.trod enc Try.prog W 0 (fun _ => true) true n 23 [v] = some y) (hb : Rows.uptoBulk y.1 ≤ 1048576) : ∃ l : List Px.Fx.Va, Px.VR (Px.fzm (Px.held0 W)) (Px.Fx.rowA l) v ∧ l.length ≤ 1048576 ∧ ∀ i, (l.getD i default).s.length ≤ 1048576 := by
  obtain ⟨l, hl, hq⟩ := Px.read_slice (en := Px.Fx.encVa) (z := 3) (by omega) (fun _ => rfl) Try.underlying23 c29 (Q := VaQ) el29 h
  refine ⟨l, hl, ?_⟩
  rcases hq with ⟨rfl, _⟩ | ⟨els, sp, h1, h2, h3⟩
  · exact ⟨Nat.zero_le _, fun i => Nat.zero_le _⟩
  · have hs := bulks.slice_le els sp
    have he := bulks.slice_elems els sp
    rw [← h1] at hs he
    refine ⟨by omega, fun i => ?_⟩
    by_cases hi : i < l.length
    · obtain ⟨d, hd, q⟩ := h3 i hi
      have := bulks.part_le hd
      unfold VaQ at q
      omega
    · have e : l.getD i default = default := by
        rw [List.getD_eq_getElem?_getD, List.getElem?_eq_none (by omega)]; rfl
      rw [e]
      exact Nat.zero_le _
/-- arguments that came in -/
theorem read24 {n : Nat} {v : Value} {y : DataW H × List MemPlace} (h : DataW.trod enc Try.prog W 0 (fun _ => true) true n 24 [v] = some y) (hb : Rows.uptoBulk y.1 ≤ 1048576) : ∃ l : List Px.Fx.Ag, Px.VR (Px.fzm (Px.held0 W)) (Px.Fx.argsA l) v ∧ l.length ≤ 1048576 ∧ ∀ i, (l.getD i default).x.length ≤ 1048576 ∧ (l.getD i default).v.s.length ≤ 1048576 := by
  obtain ⟨l, hl, hq⟩ := Px.read_slice (en := Px.Fx.encAg) (z := 4) (by omega) (fun _ => rfl) Try.underlying24 c50 (Q := AgQ) el50 h
  refine ⟨l, hl, ?_⟩
  rcases hq with ⟨rfl, _⟩ | ⟨els, sp, h1, h2, h3⟩
  · exact ⟨Nat.zero_le _, fun i => ⟨Nat.zero_le _, Nat.zero_le _⟩⟩
  · have hs := bulks.slice_le els sp
    have he := bulks.slice_elems els sp
    rw [← h1] at hs he
    refine ⟨by omega, fun i => ?_⟩
    by_cases hi : i < l.length
    · obtain ⟨d, hd, q⟩ := h3 i hi
      have := bulks.part_le hd
      have q1 := q.1
      have q2 := q.2
      omega
    · have e : l.getD i default = default := by
        rw [List.getD_eq_getElem?_getD, List.getElem?_eq_none (by omega)]; rfl
      rw [e]
      exact ⟨Nat.zero_le _, Nat.zero_le _⟩
end

theorem contract (H : Type) (enc : TypeId × Value → H) (W : World) (base : Nat) (args : Array Value) (ds gs : List (DataW H)) (before : List MemPlace)
    (hval : ∀ (j : Nat) t v, Try.f3.params[j]? = some t → args[j]? = some v → Value.okWide Try.prog W .any base t v)
    (hW : DataW.Whole enc Try.prog Try.f3.params.toList Rows.fixFitsSpec.vars false W args.toList ds gs before) (hk : Rows.uptoSmall H (ds ++ gs) = true) :
    Calls Try.prog 3 args W fun e W' => ∃ v, e = .returned v ∧ Rows.fixFitsSpec.post enc Try.prog Try.f3 false true false false W args v W' := by
  have hW' := hW
  have hold := hW.lt
  obtain ⟨p, q, hA0, hV, rfl, hfz, hnd⟩ := hW
  have hA : DataW.TrodAll enc Try.prog W 0 (fun _ => true) true Try.f3.params.toList args.toList ds p := hA0
  have hAk := hA
  rw [Try.params3] at hA hval
  obtain ⟨v0, vs0, d0, ds0, p0, q0, hargs, rfl, rfl, h0, r0⟩ := trodAll_cons hA
  obtain ⟨v1, vs1, d1, ds1, p1, q1, rfl, rfl, rfl, h1, r1⟩ := trodAll_cons r0
  obtain ⟨rfl, rfl, rfl⟩ := trodAll_nil r1
  obtain rfl : args = #[v0, v1] := by cases args; simp_all
  obtain ⟨rfl, rfl⟩ := trodVars_none hV
  have hbulk := bulks.bound hk
  simp only [List.append_nil, Rows.uptoBulkAll] at hbulk
  obtain ⟨n0, h0⟩ := h0
  obtain ⟨n1, h1⟩ := h1
  obtain ⟨a0, l0, k0, rfl⟩ := okWide_slice Try.underlying23 (hval 0 23 v0 rfl rfl)
  obtain ⟨a1, l1, k1, rfl⟩ := okWide_slice Try.underlying24 (hval 1 24 v1 rfl rfl)
  obtain ⟨a, ha, ia, ra⟩ := read23 (n := n0) (y := (d0, p0)) h0 (by show Rows.uptoBulk d0 ≤ _; omega)
  obtain ⟨b, hb, ib, rb⟩ := read24 (n := n1) (y := (d1, p1)) h1 (by show Rows.uptoBulk d1 ≤ _; omega)
  have hA2 : Px.VRs (Px.fzm (Px.held0 W)) [Px.Fx.rowA a, Px.Fx.argsA b] [.slice a0 l0 k0, .slice a1 l1 k1] := by
    simp only [Px.VRs]
    exact ⟨_, _, ha, ⟨_, _, hb, rfl, rfl⟩, rfl⟩
  have kk : Px.KOk Px.Fx.cF 3 [Px.Fx.rowA a, Px.Fx.argsA b] (.bool true) :=
    Px.Fx.k3 a b (fun i => by have := (rb i).1; omega) (fun i => by have := (rb i).2; omega) (fun i => by have := ra i; omega) (by omega) (by omega)
  refine (show Calls Try.prog 3 #[.slice a0 l0 k0, .slice a1 l1 k1] W _ from Px.KOk.calls Px.Fx.cF_ok Try.func3 rfl kk hA2).mono fun e W' ⟨z, he, hx, ρ, hz⟩ => ?_
  simp only [Px.VR] at hz
  subst hz; subst he
  exact ⟨_, rfl, _, _, _, [], _, [], hW', trodAll_mk1 (shut_bool Try.underlying4 _),
    DataW.TrodAll.respare kids full (by rw [Try.params3]; exact of_decide_eq_true (by kernel_rfl)) (Px.trodAll_carry hAk fun x hq => Px.ext_same hx (hold x (List.mem_append_left _ hq))) (fun x hq => by simpa using hold x (List.mem_append_left _ hq)),
    rfl, Px.ext_kept hx _, fun h => by cases h⟩

set_option maxRecDepth 100000 in
theorem lifted (os : Os) (started : os.Started) (H : Type) (enc : TypeId × Value → H) (F : Stop.Interp) :
    ReturnsInHanded {} Try.checked os 3 .any ((Rows.OpenSpec.upto Rows.fixFitsSpec).pre6 enc Try.prog Try.f3 Rows.fixFitsUptoRow.domain false) (((Rows.OpenSpec.upto Rows.fixFitsSpec).at F).post enc Try.prog Try.f3 false true false false) := by
  refine returnsInHanded_of_cond (C := Try.checked) (s := Rows.OpenSpec.upto Rows.fixFitsSpec) (k := Rows.uptoSmall) rfl own started (by kernel_rfl) Try.func3
    (OpenSpec.witness (enc := enc) (C := Try.checked) (s := Rows.OpenSpec.upto Rows.fixFitsSpec) (k := Rows.uptoSmall) rfl false ⟨#[], #[.slice none 0 0, .slice none 0 0], []⟩ 8 (by kernel_rfl) (by kernel_rfl) (by kernel_rfl)
      (x := ([.nil, .nil], [], [])) (by kernel_rfl) rfl (by kernel_rfl)) ?_
  intro W base args ds gs before hval hW _ hk _
  exact contract H enc W base args ds gs before hval hW hk

theorem proved : Rows.FixFitsUptoSaid :=
  OpenClaim.holds_of_cond 3 Try.f3 rfl rfl rfl rfl rfl rfl rfl ⟨rfl, rfl, rfl, rfl, rfl⟩ rfl rfl rfl rfl rfl (by kernel_rfl) Try.func3 (by kernel_rfl)
    (of_decide_eq_true (by kernel_rfl)) (by unfold Func.isWrapper; first | (rw [if_pos (by decide +kernel)]; kernel_rfl) | (rw [if_neg (by decide +kernel)]; exact ⟨rfl, rfl⟩))
    (fun os started H enc _ F => lifted os started H enc F)
end Go.Proofs.Ytfngmfddoaajaaa.fixFits
end
