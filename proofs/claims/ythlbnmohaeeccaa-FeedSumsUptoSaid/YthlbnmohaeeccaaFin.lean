/- FeedSums: whatever the two lists of facts, within the bound, the law answers true: by walks (Fs..) over the P-layer (Px..), a run of the closed example, and a plain law on sets. -/
import Derived.Test.YthlbnmohaeeccaaK5
import Derived.Test.YthlbnmohaeeccaaBulk
import Derived.ProofKit
import Derived.OpenShut
import Derived.JoinedCond
/- FsRow -/
section
namespace Go.Proofs.Ythlbnmohaeeccaa.feedSums
open Go.ChangeShapes Go.WideShapes Go.ChangeAt Go.RowKit
set_option linter.unusedVariables false
set_option maxRecDepth 100000

theorem own : ownKnob Try.prog.godebug = none := by kernel_rfl
theorem laid : laidOutB Try.prog = true := by kernel_rfl
theorem kids : Kids Try.prog (· < Try.prog.types.size) := kids_rows laid (by kernel_rfl)
theorem full : ∀ t e, t < Try.prog.types.size → Try.prog.underlying t = some (.slice e) → 0 < Try.prog.cellsOf e := slices_full_of Try.prog (by kernel_rfl)
theorem c2 : Try.prog.cellsOf 2 = 1 := by kernel_rfl
theorem c3 : Try.prog.cellsOf 3 = 1 := by kernel_rfl
theorem c9 : Try.prog.cellsOf 9 = 1 := by kernel_rfl
theorem c56 : Try.prog.cellsOf 56 = 3 := by kernel_rfl
theorem c85 : Try.prog.cellsOf 85 = 1 := by kernel_rfl
theorem c87 : Try.prog.cellsOf 87 = 6 := by kernel_rfl
theorem c126 : Try.prog.cellsOf 126 = 2 := by kernel_rfl
theorem wf64 {n : Int} (h : (Lit.int .i64 n).wf = true) : Px.Fs.MN ≤ n ∧ n ≤ Px.Fs.MX := by
  simpa [Lit.wf, IntKind.min, IntKind.max, IntKind.signed, IntKind.bits, Px.Fs.MN, Px.Fs.MX] using h

section
variable {H : Type} {enc : TypeId × Value → H} {W : World}
theorem el126 (n : Nat) (cs : List Value) (y : DataW H × List MemPlace) (h : DataW.trod enc Try.prog W 0 (fun _ => true) true n 126 cs = some y) : ∃ x : Px.Fs.Sp, Px.VRs (Px.fzm (Px.held0 W)) (Px.Fs.encSp x) cs ∧ (Px.Fs.MN ≤ x.a ∧ x.b ≤ Px.Fs.MX) := by
  obtain ⟨xs, k, rfl, rfl, hlen, hxl, hf⟩ := DataW.trod_struct Try.underlying126 h
  rw [c126] at hlen
  match cs, hlen with
  | [p0, p1], _ =>
    match xs, hxl with
    | [x0, x1], _ =>
      have g0 : DataW.trod enc Try.prog W 0 (fun _ => true) true k 2 [p0] = some x0 := by have := hf 0 _ rfl; simpa [c2] using this
      have g1 : DataW.trod enc Try.prog W 0 (fun _ => true) true k 2 [p1] = some x1 := by have := hf 1 _ rfl; simpa [c2] using this
      obtain ⟨a, ha, _, wa⟩ := DataW.trod_int Try.underlying2 g0
      obtain ⟨b, hb, _, wb⟩ := DataW.trod_int Try.underlying2 g1
      simp only [List.cons.injEq, and_true] at ha hb
      subst ha; subst hb
      exact ⟨⟨a, b⟩, by simp [Px.VRs, Px.VR, Px.Fs.encSp], (wf64 wa).1, (wf64 wb).2⟩
/-- a fact that came in -/
def FaQ (f : Px.Fs.Fa) (d : DataW H) : Prop := (f.v.s.length ≤ Rows.uptoBulk d ∧ f.l.length ≤ Rows.uptoBulk d) ∧ Px.Fs.Rng f.l
theorem el87 (n : Nat) (cs : List Value) (y : DataW H × List MemPlace) (h : DataW.trod enc Try.prog W 0 (fun _ => true) true n 87 cs = some y) : ∃ x : Px.Fs.Fa, Px.VRs (Px.fzm (Px.held0 W)) (Px.Fs.encFa x) cs ∧ FaQ x y.1 := by
  obtain ⟨xs, k, rfl, rfl, hlen, hxl, hf⟩ := DataW.trod_struct Try.underlying87 h
  rw [c87] at hlen
  match cs, hlen with
  | [p0, p1, p2, p3, p4, p5], _ =>
    match xs, hxl with
    | [x0, x1, x2, x3], _ =>
      have g0 : DataW.trod enc Try.prog W 0 (fun _ => true) true k 2 [p0] = some x0 := by have := hf 0 _ rfl; simpa [c2] using this
      have g1 : DataW.trod enc Try.prog W 0 (fun _ => true) true k 2 [p1] = some x1 := by have := hf 1 _ rfl; simpa [c2] using this
      have g2 : DataW.trod enc Try.prog W 0 (fun _ => true) true k 56 [p2, p3, p4] = some x2 := by have := hf 2 _ rfl; simpa [c56] using this
      have g3 : DataW.trod enc Try.prog W 0 (fun _ => true) true k 85 [p5] = some x3 := by have := hf 3 _ rfl; simpa [c85] using this
      obtain ⟨e, he, _, _⟩ := DataW.trod_int Try.underlying2 g0
      obtain ⟨a, ha, _, _⟩ := DataW.trod_int Try.underlying2 g1
      obtain ⟨zs, m, rfl, rfl, zlen, zxl, zf⟩ := DataW.trod_struct Try.underlying56 g2
      match zs, zxl with
      | [z0, z1, z2], _ =>
        have i0 : DataW.trod enc Try.prog W 0 (fun _ => true) true m 3 [p2] = some z0 := by have := zf 0 _ rfl; simpa [c3] using this
        have i1 : DataW.trod enc Try.prog W 0 (fun _ => true) true m 2 [p3] = some z1 := by have := zf 1 _ rfl; simpa [c2] using this
        have i2 : DataW.trod enc Try.prog W 0 (fun _ => true) true m 9 [p4] = some z2 := by have := zf 2 _ rfl; simpa [c9] using this
        obtain ⟨vk, hk, _, _⟩ := DataW.trod_int Try.underlying3 i0
        obtain ⟨vn, hn, _, _⟩ := DataW.trod_int Try.underlying2 i1
        obtain ⟨vs, hs, hz2, _⟩ := DataW.trod_string Try.underlying9 i2
        obtain ⟨l, hl, hq⟩ := Px.read_slice (en := Px.Fs.encSp) (z := 2) (by omega) (fun _ => rfl) Try.underlying85 c126 (Q := fun s _ => Px.Fs.MN ≤ s.a ∧ s.b ≤ Px.Fs.MX) el126 g3
        simp only [List.cons.injEq, and_true] at he ha hk hn hs
        subst he; subst ha; subst hk; subst hn; subst hs; subst hz2
        refine ⟨⟨e, a, ⟨vk, vn, vs.data.toList⟩, l⟩, ?_, ⟨?_, ?_⟩, ?_⟩
        · have h1 := Px.read_str (Px.fzm (Px.held0 W)) vs
          have hl : Px.VR (Px.fzm (Px.held0 W)) (Px.Fs.spsA l) p5 := hl
          simp only [Px.Fs.encFa, Px.VRs, Px.VR]
          exact ⟨_, _, rfl, ⟨_, _, rfl, ⟨_, _, rfl, ⟨_, _, rfl, ⟨_, _, h1, ⟨_, _, hl, rfl, rfl⟩, rfl⟩, rfl⟩, rfl⟩, rfl⟩, rfl⟩
        · simp only [List.map_cons, List.map_nil, Rows.uptoBulk, Rows.uptoBulkAll]; omega
        · simp only [List.map_cons, List.map_nil, Rows.uptoBulk, Rows.uptoBulkAll]
          rcases hq with ⟨rfl, _⟩ | ⟨els, sp, h1, h2, _⟩
          · exact Nat.zero_le _
          · have := bulks.slice_le els sp
            rw [h1]; omega
        · intro s hs
          rcases hq with ⟨rfl, _⟩ | ⟨els, sp, _, _, h3⟩
          · simp at hs
          · obtain ⟨i, hi, e⟩ := List.getElem_of_mem hs
            obtain ⟨_, _, q⟩ := h3 i hi
            rw [List.getD_eq_getElem?_getD, List.getElem?_eq_getElem hi] at q
            rw [← e]; exact q
/-- a list of facts that came in -/
theorem read45 {n : Nat} {v : Value} {y : DataW H × List MemPlace} (h : DataW.trod enc Try.prog W 0 (fun _ => true) true n 45 [v] = some y) (hb : Rows.uptoBulk y.1 ≤ 1048576) : ∃ l : List Px.Fs.Fa, Px.VR (Px.fzm (Px.held0 W)) (Px.Fs.fasA l) v ∧ Px.Fs.InB l ∧ Px.Fs.RngF l := by
  obtain ⟨l, hl, hq⟩ := Px.read_slice (en := Px.Fs.encFa) (z := 6) (by omega) (fun _ => rfl) Try.underlying45 c87 (Q := FaQ) el87 h
  refine ⟨l, hl, ?_⟩
  rcases hq with ⟨rfl, _⟩ | ⟨els, sp, h1, h2, h3⟩
  · exact ⟨⟨Nat.zero_le _, fun i => ⟨Nat.zero_le _, Nat.zero_le _⟩⟩, fun i hi => by simp at hi⟩
  · have hs := bulks.slice_le els sp
    have he := bulks.slice_elems els sp
    rw [← h1] at hs he
    refine ⟨⟨by omega, fun i => ?_⟩, fun i hi => ?_⟩
    · by_cases hi : i < l.length
      · obtain ⟨d, hd, q⟩ := h3 i hi
        have := bulks.part_le hd
        have q1 := q.1
        omega
      · have e : l.getD i default = default := by
          rw [List.getD_eq_getElem?_getD, List.getElem?_eq_none (by omega)]; rfl
        rw [e]
        exact ⟨Nat.zero_le _, Nat.zero_le _⟩
    · obtain ⟨d, hd, q⟩ := h3 i hi
      exact q.2
end

theorem contract (H : Type) (enc : TypeId × Value → H) (W : World) (base : Nat) (args : Array Value) (ds gs : List (DataW H)) (before : List MemPlace)
    (hval : ∀ (j : Nat) t v, Try.f5.params[j]? = some t → args[j]? = some v → Value.okWide Try.prog W .any base t v)
    (hW : DataW.Whole enc Try.prog Try.f5.params.toList Rows.feedSumsSpec.vars false W args.toList ds gs before) (hk : Rows.uptoSmall H (ds ++ gs) = true) :
    Calls Try.prog 5 args W fun e W' => ∃ v, e = .returned v ∧ Rows.feedSumsSpec.post enc Try.prog Try.f5 false true false false W args v W' := by
  have hW' := hW
  have hold := hW.lt
  obtain ⟨p, q, hA0, hV, rfl, hfz, hnd⟩ := hW
  have hA : DataW.TrodAll enc Try.prog W 0 (fun _ => true) true Try.f5.params.toList args.toList ds p := hA0
  have hAk := hA
  rw [Try.params5] at hA hval
  obtain ⟨v0, vs0, d0, ds0, p0, q0, hargs, rfl, rfl, h0, r0⟩ := trodAll_cons hA
  obtain ⟨v1, vs1, d1, ds1, p1, q1, rfl, rfl, rfl, h1, r1⟩ := trodAll_cons r0
  obtain ⟨rfl, rfl, rfl⟩ := trodAll_nil r1
  obtain rfl : args = #[v0, v1] := by cases args; simp_all
  obtain ⟨rfl, rfl⟩ := trodVars_none hV
  have hbulk := bulks.bound hk
  simp only [List.append_nil, Rows.uptoBulkAll] at hbulk
  obtain ⟨n0, h0⟩ := h0
  obtain ⟨n1, h1⟩ := h1
  obtain ⟨a0, l0, k0, rfl⟩ := okWide_slice Try.underlying45 (hval 0 45 v0 rfl rfl)
  obtain ⟨a1, l1, k1, rfl⟩ := okWide_slice Try.underlying45 (hval 1 45 v1 rfl rfl)
  obtain ⟨a, ha, ia, ra⟩ := read45 (n := n0) (y := (d0, p0)) h0 (by show Rows.uptoBulk d0 ≤ _; omega)
  obtain ⟨b, hb, ib, rb⟩ := read45 (n := n1) (y := (d1, p1)) h1 (by show Rows.uptoBulk d1 ≤ _; omega)
  have hA2 : Px.VRs (Px.fzm (Px.held0 W)) [Px.Fs.fasA a, Px.Fs.fasA b] [.slice a0 l0 k0, .slice a1 l1 k1] := by
    simp only [Px.VRs]
    exact ⟨_, _, ha, ⟨_, _, hb, rfl, rfl⟩, rfl⟩
  refine (show Calls Try.prog 5 #[.slice a0 l0 k0, .slice a1 l1 k1] W _ from Px.KOk.calls Px.Fs.cF_ok Try.func5 rfl (Px.Fs.kL a b ia ib ra rb) hA2).mono fun e W' ⟨z, he, hx, ρ, hz⟩ => ?_
  simp only [Px.VR] at hz
  subst hz; subst he
  exact ⟨_, rfl, _, _, _, [], _, [], hW', trodAll_mk1 (shut_bool Try.underlying4 _),
    DataW.TrodAll.respare kids full (by rw [Try.params5]; exact of_decide_eq_true (by kernel_rfl)) (Px.trodAll_carry hAk fun x hq => Px.ext_same hx (hold x (List.mem_append_left _ hq))) (fun x hq => by simpa using hold x (List.mem_append_left _ hq)),
    rfl, Px.ext_kept hx _, fun h => by cases h⟩

set_option maxRecDepth 100000 in
theorem lifted (os : Os) (started : os.Started) (H : Type) (enc : TypeId × Value → H) (F : Stop.Interp) :
    ReturnsInHanded {} Try.checked os 5 .any ((Rows.OpenSpec.upto Rows.feedSumsSpec).pre6 enc Try.prog Try.f5 Rows.feedSumsUptoRow.domain false) (((Rows.OpenSpec.upto Rows.feedSumsSpec).at F).post enc Try.prog Try.f5 false true false false) := by
  refine returnsInHanded_of_cond (C := Try.checked) (s := Rows.OpenSpec.upto Rows.feedSumsSpec) (k := Rows.uptoSmall) rfl own started (by kernel_rfl) Try.func5
    (OpenSpec.witness (enc := enc) (C := Try.checked) (s := Rows.OpenSpec.upto Rows.feedSumsSpec) (k := Rows.uptoSmall) rfl false ⟨#[], #[.slice none 0 0, .slice none 0 0], []⟩ 8 (by kernel_rfl) (by kernel_rfl) (by kernel_rfl)
      (x := ([.nil, .nil], [], [])) (by kernel_rfl) rfl (by kernel_rfl)) ?_
  intro W base args ds gs before hval hW _ hk _
  exact contract H enc W base args ds gs before hval hW hk

theorem proved : Rows.FeedSumsUptoSaid :=
  OpenClaim.holds_of_cond 5 Try.f5 rfl rfl rfl rfl rfl rfl rfl ⟨rfl, rfl, rfl, rfl, rfl⟩ rfl rfl rfl rfl rfl (by kernel_rfl) Try.func5 (by kernel_rfl)
    (of_decide_eq_true (by kernel_rfl)) (by unfold Func.isWrapper; first | (rw [if_pos (by decide +kernel)]; kernel_rfl) | (rw [if_neg (by decide +kernel)]; exact ⟨rfl, rfl⟩))
    (fun os started H enc _ F => lifted os started H enc F)
end Go.Proofs.Ythlbnmohaeeccaa.feedSums
end
