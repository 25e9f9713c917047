/- StrataHangs: whatever the rule, within the bound, the law answers true: by walks (Fx.., Fh..) over the P-layer (Px..). -/
import Derived.Test.YtfngmfddoaajaaaK6
import Derived.Test.YtfngmfddoaajaaaBulk
import Derived.ProofKit
import Derived.OpenShut
import Derived.JoinedCond
/- FhRow -/
section
namespace Go.Proofs.Ytfngmfddoaajaaa.strataHangs
open Go.ChangeShapes Go.WideShapes Go.ChangeAt Go.RowKit
set_option linter.unusedVariables false
set_option maxRecDepth 100000

theorem own : ownKnob Try.prog.godebug = none := by kernel_rfl
theorem laid : laidOutB Try.prog = true := by kernel_rfl
theorem kids : Kids Try.prog (· < Try.prog.types.size) := kids_rows laid (by kernel_rfl)
theorem full : ∀ t e, t < Try.prog.types.size → Try.prog.underlying t = some (.slice e) → 0 < Try.prog.cellsOf e := slices_full_of Try.prog (by kernel_rfl)
theorem c2 : Try.prog.cellsOf 2 = 1 := by kernel_rfl
theorem c3 : Try.prog.cellsOf 3 = 1 := by kernel_rfl
theorem c9 : Try.prog.cellsOf 9 = 1 := by kernel_rfl
theorem c24 : Try.prog.cellsOf 24 = 1 := by kernel_rfl
theorem c25 : Try.prog.cellsOf 25 = 1 := by kernel_rfl
theorem c29 : Try.prog.cellsOf 29 = 3 := by kernel_rfl
theorem c31 : Try.prog.cellsOf 31 = 1 := by kernel_rfl
theorem c33 : Try.prog.cellsOf 33 = 3 := by kernel_rfl
theorem c41 : Try.prog.cellsOf 41 = 5 := by kernel_rfl
theorem c50 : Try.prog.cellsOf 50 = 4 := by kernel_rfl

section
variable {H : Type} {enc : TypeId × Value → H} {W : World}
theorem sum_le {α : Type} [Inhabited α] {f : α → Nat} : ∀ {l : List α} {els : List (DataW H)}, els.length = l.length → (∀ i, i < l.length → ∃ d, els[i]? = some d ∧ f (l.getD i default) ≤ Rows.uptoBulk d) → (l.map f).sum ≤ Rows.uptoBulkAll els
  | [], _, _, _ => by simp
  | a :: l, [], h, _ => by simp at h
  | a :: l, d :: els, h, H => by
    obtain ⟨d0, e0, q0⟩ := H 0 (by simp)
    simp only [List.getElem?_cons_zero, Option.some.injEq] at e0
    subst e0
    have := sum_le (l := l) (els := els) (by simpa using h) (fun i hi => by
      obtain ⟨d, e, q⟩ := H (i + 1) (by simpa using hi)
      exact ⟨d, by simpa using e, by simpa using q⟩)
    simp only [List.map_cons, List.sum_cons, Rows.uptoBulkAll]
    have q0 : f a ≤ _ := q0
    omega
theorem cntL_sum : ∀ l : List Px.Fx.Cl, Px.Fx.cntL l = (l.map Px.Fx.Cl.cnt).sum
  | [] => rfl
  | c :: r => by simp only [Px.Fx.cntL, List.map_cons, List.sum_cons, cntL_sum r]
theorem el9 (n : Nat) (cs : List Value) (y : DataW H × List MemPlace) (_ : True) (h : DataW.trod enc Try.prog W 0 (fun _ => true) true n 9 cs = some y) : ∃ x : List UInt8, Px.VRs (Px.fzm (Px.held0 W)) (Px.Fx.encS x) cs ∧ True := by
  obtain ⟨vs, hs, _, _⟩ := DataW.trod_string Try.underlying9 h
  subst hs
  refine ⟨vs.data.toList, ?_, trivial⟩
  simp only [Px.Fx.encS, Px.VRs]
  exact ⟨_, _, Px.read_str (Px.fzm (Px.held0 W)) vs, rfl, rfl⟩
theorem el29 (n : Nat) (cs : List Value) (y : DataW H × List MemPlace) (h : DataW.trod enc Try.prog W 0 (fun _ => true) true n 29 cs = some y) : ∃ x : Px.Fx.Va, Px.VRs (Px.fzm (Px.held0 W)) (Px.Fx.encVa x) cs := by
  obtain ⟨xs, k, rfl, rfl, hlen, hxl, hf⟩ := DataW.trod_struct Try.underlying29 h
  rw [c29] at hlen
  match cs, hlen with
  | [p0, p1, p2], _ =>
    match xs, hxl with
    | [x0, x1, x2], _ =>
      have g0 : DataW.trod enc Try.prog W 0 (fun _ => true) true k 3 [p0] = some x0 := by have := hf 0 _ rfl; simpa [c3] using this
      have g1 : DataW.trod enc Try.prog W 0 (fun _ => true) true k 2 [p1] = some x1 := by have := hf 1 _ rfl; simpa [c2] using this
      have g2 : DataW.trod enc Try.prog W 0 (fun _ => true) true k 9 [p2] = some x2 := by have := hf 2 _ rfl; simpa [c9] using this
      obtain ⟨vk, hk, _, _⟩ := DataW.trod_int Try.underlying3 g0
      obtain ⟨vn, hn, _, _⟩ := DataW.trod_int Try.underlying2 g1
      obtain ⟨vs, hs, hz2, _⟩ := DataW.trod_string Try.underlying9 g2
      simp only [List.cons.injEq, and_true] at hk hn hs
      subst hk; subst hn; subst hs
      refine ⟨⟨vk, vn, vs.data.toList⟩, ?_⟩
      have h1 := Px.read_str (Px.fzm (Px.held0 W)) vs
      simp only [Px.Fx.encVa, Px.VRs, Px.VR]
      exact ⟨_, _, rfl, ⟨_, _, rfl, ⟨_, _, h1, rfl, rfl⟩, rfl⟩, rfl⟩
theorem el50 (n : Nat) (cs : List Value) (y : DataW H × List MemPlace) (_ : True) (h : DataW.trod enc Try.prog W 0 (fun _ => true) true n 50 cs = some y) : ∃ x : Px.Fx.Ag, Px.VRs (Px.fzm (Px.held0 W)) (Px.Fx.encAg x) cs ∧ True := by
  obtain ⟨xs, k, rfl, rfl, hlen, hxl, hf⟩ := DataW.trod_struct Try.underlying50 h
  rw [c50] at hlen
  match cs, hlen with
  | [p0, p1, p2, p3], _ =>
    match xs, hxl with
    | [x0, x1], _ =>
      have g0 : DataW.trod enc Try.prog W 0 (fun _ => true) true k 9 [p0] = some x0 := by have := hf 0 _ rfl; simpa [c9] using this
      have g1 : DataW.trod enc Try.prog W 0 (fun _ => true) true k 29 [p1, p2, p3] = some x1 := by have := hf 1 _ rfl; simpa [c29] using this
      obtain ⟨vs, hs, hz2, _⟩ := DataW.trod_string Try.underlying9 g0
      obtain ⟨v, hv⟩ := el29 k _ _ g1
      simp only [List.cons.injEq, and_true] at hs
      subst hs
      refine ⟨⟨vs.data.toList, v⟩, ?_, trivial⟩
      have h1 := Px.read_str (Px.fzm (Px.held0 W)) vs
      simp only [Px.Fx.encVa, Px.VRs, Px.VR] at hv
      simp only [Px.Fx.encAg, Px.VRs, Px.VR]
      exact ⟨_, _, h1, hv, rfl⟩
/-- a slice's length is at most its bulk -/
theorem len_bulk {α : Type} {l : List α} {y : DataW H} {R : List (DataW H) → Prop} (hq : (l = [] ∧ y = .nil) ∨ ∃ els sp, y = .slice els sp ∧ els.length = l.length ∧ R els) : l.length ≤ Rows.uptoBulk y := by
  rcases hq with ⟨rfl, _⟩ | ⟨els, sp, h1, h2, _⟩
  · exact Nat.zero_le _
  · have := bulks.slice_le els sp
    rw [h1]; omega
theorem cls_bulk {l : List Px.Fx.Cl} {y : DataW H} (hq : (l = [] ∧ y = .nil) ∨ ∃ els sp, y = .slice els sp ∧ els.length = l.length ∧ ∀ i, i < l.length → ∃ d, els[i]? = some d ∧ Px.Fx.Cl.cnt (l.getD i default) ≤ Rows.uptoBulk d) : Px.Fx.cntL l ≤ Rows.uptoBulk y := by
  rcases hq with ⟨rfl, _⟩ | ⟨els, sp, h1, h2, h3⟩
  · exact Nat.zero_le _
  · have h4 := bulks.slice_elems els sp
    have h5 := sum_le (f := Px.Fx.Cl.cnt) h2 h3
    rw [cntL_sum, h1]; omega
/-- a clause that came in -/
theorem el41 : ∀ (N n : Nat) (cs : List Value) (y : DataW H × List MemPlace), Rows.uptoBulk y.1 < N → DataW.trod enc Try.prog W 0 (fun _ => true) true n 41 cs = some y → ∃ x : Px.Fx.Cl, Px.VRs (Px.fzm (Px.held0 W)) (Px.Fx.encF x) cs ∧ x.cnt ≤ Rows.uptoBulk y.1 := by
  intro N
  induction N with
  | zero => intro n cs y hN; omega
  | succ N IH =>
  intro n cs y hN h
  obtain ⟨xs, k, rfl, rfl, hlen, hxl, hf⟩ := DataW.trod_struct Try.underlying41 h
  rw [c41] at hlen
  match cs, hlen with
  | [p0, p1, p2, p3, p4], _ =>
    match xs, hxl with
    | [x0, x1, x2, x3, x4], _ =>
      have g0 : DataW.trod enc Try.prog W 0 (fun _ => true) true k 3 [p0] = some x0 := by have := hf 0 _ rfl; simpa [c3] using this
      have g1 : DataW.trod enc Try.prog W 0 (fun _ => true) true k 9 [p1] = some x1 := by have := hf 1 _ rfl; simpa [c9] using this
      have g2 : DataW.trod enc Try.prog W 0 (fun _ => true) true k 24 [p2] = some x2 := by have := hf 2 _ rfl; simpa [c24] using this
      have g3 : DataW.trod enc Try.prog W 0 (fun _ => true) true k 9 [p3] = some x3 := by have := hf 3 _ rfl; simpa [c9] using this
      have g4 : DataW.trod enc Try.prog W 0 (fun _ => true) true k 31 [p4] = some x4 := by have := hf 4 _ rfl; simpa [c31] using this
      simp only [List.map_cons, List.map_nil, Rows.uptoBulk, Rows.uptoBulkAll] at hN
      obtain ⟨vk, hk, _, _⟩ := DataW.trod_int Try.underlying3 g0
      obtain ⟨vn, hn, _, _⟩ := DataW.trod_string Try.underlying9 g1
      obtain ⟨vo, ho, _, _⟩ := DataW.trod_string Try.underlying9 g3
      obtain ⟨a, ha, qa⟩ := Px.read_sliceB (en := Px.Fx.encAg) (z := 4) (by omega) (fun _ => rfl) Try.underlying24 c50 (Q := fun _ _ => True) (B := fun _ => True) el50 (fun _ _ _ _ _ => trivial) g2
      obtain ⟨l, hl, ql⟩ := Px.read_sliceB (en := Px.Fx.encF) (z := 5) (by omega) (fun _ => rfl) Try.underlying31 c41 (Q := fun x d => x.cnt ≤ Rows.uptoBulk d) (B := fun d => Rows.uptoBulk d < N) (fun n cs y hB h => IH n cs y hB h) (fun els sp e d hd => by
        have h1 := bulks.part_le hd
        have h2 := bulks.slice_elems els sp
        rw [← e] at h2
        omega) g4
      have la := len_bulk qa
      have ll := cls_bulk ql
      simp only [List.cons.injEq, and_true] at hk hn ho
      subst hk; subst hn; subst ho
      refine ⟨.mk vk vn.data.toList a vo.data.toList l, ?_, ?_⟩
      · have h1 := Px.read_str (Px.fzm (Px.held0 W)) vn
        have h3 := Px.read_str (Px.fzm (Px.held0 W)) vo
        rw [← Px.Fx.clsA_eq] at hl
        simp only [Px.Fx.encF, Px.VRs, Px.Fx.Cl.k, Px.Fx.Cl.n, Px.Fx.Cl.a, Px.Fx.Cl.o, Px.Fx.Cl.kids]
        exact ⟨_, _, by simp only [Px.VR], ⟨_, _, h1, ⟨_, _, ha, ⟨_, _, h3, ⟨_, _, hl, rfl, rfl⟩, rfl⟩, rfl⟩, rfl⟩, rfl⟩
      · simp only [Px.Fx.Cl.cnt, List.map_cons, List.map_nil, Rows.uptoBulk, Rows.uptoBulkAll]
        have := bulks.one_le x0.1
        omega
/-- a rule that came in -/
theorem read33 {n : Nat} {v : Value} {y : DataW H × List MemPlace} (hv : ∃ cs, v = .agg cs ∧ cs.size = Try.prog.cellsOf 33) (h : DataW.trod enc Try.prog W 0 (fun _ => true) true n 33 v.cells.toList = some y) (hb : Rows.uptoBulk y.1 ≤ 1048576) : ∃ (nm : Px.Fx.Str) (av : List Px.Fx.Str) (body : List Px.Fx.Cl), Px.VR (Px.fzm (Px.held0 W)) (Px.Fh.ruA nm av body) v ∧ Px.Fx.cntL body ≤ 2000000 ∧ av.length ≤ 2000000 := by
  obtain ⟨cs, rfl, hcs⟩ := hv
  rw [c33] at hcs
  simp only [Value.cells] at h
  obtain ⟨cs⟩ := cs
  obtain ⟨xs, k, rfl, rfl, hlen, hxl, hf⟩ := DataW.trod_struct Try.underlying33 h
  rw [c33] at hlen
  match cs, hlen with
  | [p0, p1, p2], _ =>
    match xs, hxl with
    | [x0, x1, x2], _ =>
      have g0 : DataW.trod enc Try.prog W 0 (fun _ => true) true k 9 [p0] = some x0 := by have := hf 0 _ rfl; simpa [c9] using this
      have g1 : DataW.trod enc Try.prog W 0 (fun _ => true) true k 25 [p1] = some x1 := by have := hf 1 _ rfl; simpa [c25] using this
      have g2 : DataW.trod enc Try.prog W 0 (fun _ => true) true k 31 [p2] = some x2 := by have := hf 2 _ rfl; simpa [c31] using this
      simp only [List.map_cons, List.map_nil, Rows.uptoBulk, Rows.uptoBulkAll] at hb
      obtain ⟨vn, hn, _, _⟩ := DataW.trod_string Try.underlying9 g0
      obtain ⟨a, ha, qa⟩ := Px.read_sliceB (en := Px.Fx.encS) (z := 1) (by omega) (fun _ => rfl) Try.underlying25 c9 (Q := fun _ _ => True) (B := fun _ => True) el9 (fun _ _ _ _ _ => trivial) g1
      obtain ⟨l, hl, ql⟩ := Px.read_sliceB (en := Px.Fx.encF) (z := 5) (by omega) (fun _ => rfl) Try.underlying31 c41 (Q := fun x d => x.cnt ≤ Rows.uptoBulk d) (B := fun d => Rows.uptoBulk d < 2000000) (fun n cs y hB h => el41 2000000 n cs y hB h) (fun els sp e d hd => by
        have h1 := bulks.part_le hd
        have h2 := bulks.slice_elems els sp
        rw [← e] at h2
        omega) g2
      have la := len_bulk qa
      have ll := cls_bulk ql
      simp only [List.cons.injEq, and_true] at hn
      subst hn
      refine ⟨vn.data.toList, a, l, ?_, by omega, by omega⟩
      have h1 := Px.read_str (Px.fzm (Px.held0 W)) vn
      rw [← Px.Fx.clsA_eq] at hl
      simp only [Px.Fh.ruA, Px.VR, Px.VRs]
      exact ⟨_, ⟨_, _, h1, ⟨_, _, ha, ⟨_, _, hl, rfl, rfl⟩, rfl⟩, rfl⟩, rfl⟩
end

theorem contract (H : Type) (enc : TypeId × Value → H) (W : World) (base : Nat) (args : Array Value) (ds gs : List (DataW H)) (before : List MemPlace)
    (hval : ∀ (j : Nat) t v, Try.f4.params[j]? = some t → args[j]? = some v → Value.okWide Try.prog W .any base t v)
    (hW : DataW.Whole enc Try.prog Try.f4.params.toList Rows.strataHangsSpec.vars false W args.toList ds gs before) (hk : Rows.uptoSmall H (ds ++ gs) = true) :
    Calls Try.prog 4 args W fun e W' => ∃ v, e = .returned v ∧ Rows.strataHangsSpec.post enc Try.prog Try.f4 false true false false W args v W' := by
  have hW' := hW
  have hold := hW.lt
  obtain ⟨p, q, hA0, hV, rfl, hfz, hnd⟩ := hW
  have hA : DataW.TrodAll enc Try.prog W 0 (fun _ => true) true Try.f4.params.toList args.toList ds p := hA0
  have hAk := hA
  rw [Try.params4] at hA hval
  obtain ⟨v0, vs0, d0, ds0, p0, q0, hargs, rfl, rfl, h0, r0⟩ := trodAll_cons hA
  obtain ⟨rfl, rfl, rfl⟩ := trodAll_nil r0
  obtain rfl : args = #[v0] := by cases args; simp_all
  obtain ⟨rfl, rfl⟩ := trodVars_none hV
  have hbulk := bulks.bound hk
  simp only [List.append_nil, Rows.uptoBulkAll] at hbulk
  obtain ⟨n0, h0⟩ := h0
  obtain ⟨nm, av, body, hr, hb1, hb2⟩ := read33 (n := n0) (y := (d0, p0)) (okWide_struct Try.underlying33 (hval 0 33 v0 rfl rfl)) h0 (by show Rows.uptoBulk d0 ≤ _; omega)
  have hA2 : Px.VRs (Px.fzm (Px.held0 W)) [Px.Fh.ruA nm av body] [v0] := by
    simp only [Px.VRs]
    exact ⟨_, _, hr, rfl, rfl⟩
  have kk : Px.KOk Px.Fx.cF 4 [Px.Fh.ruA nm av body] (.bool true) := Px.Fh.k4 nm av body hb1 hb2
  refine (show Calls Try.prog 4 #[v0] W _ from Px.KOk.calls Px.Fx.cF_ok Try.func4 rfl kk hA2).mono fun e W' ⟨z, he, hx, ρ, hz⟩ => ?_
  simp only [Px.VR] at hz
  subst hz; subst he
  exact ⟨_, rfl, _, _, _, [], _, [], hW', trodAll_mk1 (shut_bool Try.underlying4 _),
    DataW.TrodAll.respare kids full (by rw [Try.params4]; exact of_decide_eq_true (by kernel_rfl)) (Px.trodAll_carry hAk fun x hq => Px.ext_same hx (hold x (List.mem_append_left _ hq))) (fun x hq => by simpa using hold x (List.mem_append_left _ hq)),
    rfl, Px.ext_kept hx _, fun h => by cases h⟩

set_option maxRecDepth 100000 in
theorem lifted (os : Os) (started : os.Started) (H : Type) (enc : TypeId × Value → H) (F : Stop.Interp) :
    ReturnsInHanded {} Try.checked os 4 .any ((Rows.OpenSpec.upto Rows.strataHangsSpec).pre6 enc Try.prog Try.f4 Rows.strataHangsUptoRow.domain false) (((Rows.OpenSpec.upto Rows.strataHangsSpec).at F).post enc Try.prog Try.f4 false true false false) := by
  refine returnsInHanded_of_cond (C := Try.checked) (s := Rows.OpenSpec.upto Rows.strataHangsSpec) (k := Rows.uptoSmall) rfl own started (by kernel_rfl) Try.func4
    (OpenSpec.witness (enc := enc) (C := Try.checked) (s := Rows.OpenSpec.upto Rows.strataHangsSpec) (k := Rows.uptoSmall) rfl false ⟨#[], #[.agg #[.string ⟨#[]⟩, .slice none 0 0, .slice none 0 0]], []⟩ 8 (by kernel_rfl) (by kernel_rfl) (by kernel_rfl)
      (x := ([.agg [.lit (.string []), .nil, .nil]], [], [])) (by kernel_rfl) rfl (by kernel_rfl)) ?_
  intro W base args ds gs before hval hW _ hk _
  exact contract H enc W base args ds gs before hval hW hk

theorem proved : Rows.StrataHangsUptoSaid :=
  OpenClaim.holds_of_cond 4 Try.f4 rfl rfl rfl rfl rfl rfl rfl ⟨rfl, rfl, rfl, rfl, rfl⟩ rfl rfl rfl rfl rfl (by kernel_rfl) Try.func4 (by kernel_rfl)
    (of_decide_eq_true (by kernel_rfl)) (by unfold Func.isWrapper; first | (rw [if_pos (by decide +kernel)]; kernel_rfl) | (rw [if_neg (by decide +kernel)]; exact ⟨rfl, rfl⟩))
    (fun os started H enc _ F => lifted os started H enc F)
end Go.Proofs.Ytfngmfddoaajaaa.strataHangs
end
