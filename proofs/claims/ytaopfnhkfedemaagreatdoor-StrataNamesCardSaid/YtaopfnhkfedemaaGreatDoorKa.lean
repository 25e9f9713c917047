/- StrataNames: what the runs lean on: the variables, the functions without a body, and the first known calls. No condition. -/
import Derived.Test.YtaopfnhkfedemaaGreatDoorAxZf
import Derived.Test.YtaopfnhkfedemaaGreatDoorProg
import Derived.ProofKit
namespace Go.Proofs.YtaopfnhkfedemaaGreatDoor.strataNames
open Go.Ax
set_option linter.unusedVariables false

theorem names : namesOk Tryz.prog = true := by kernel_rfl
theorem mixed : Tryz.prog.follows .mixedOrders = true := by kernel_rfl
def xs : List (FuncId × XK) := [(97, .sub 0), (128, .idx), (146, .same), (153, .cnt)]
theorem xsOk : XsOk Tryz.prog xs := ⟨⟨Tryz.f97, Tryz.func97, (by kernel_rfl), (by kernel_rfl), (by kernel_rfl), (by kernel_rfl), (show Tryz.prog.globals.findIdx? (·.name == "internal/bytealg.MaxLen") = some 0 by kernel_rfl)⟩, ⟨Tryz.f128, Tryz.func128, (by kernel_rfl), (by kernel_rfl), (by kernel_rfl), (by kernel_rfl), trivial⟩, ⟨Tryz.f146, Tryz.func146, (by kernel_rfl), (by kernel_rfl), (by kernel_rfl), (by kernel_rfl), trivial⟩, ⟨Tryz.f153, Tryz.func153, (by kernel_rfl), (by kernel_rfl), (by kernel_rfl), (by kernel_rfl), trivial⟩, trivial⟩
def gRest : List (Nat × List AV) := [(1, [.ifc 260 .bad])]
def gAny : List (Nat × List AV) := (0, [.anyi]) :: gRest
def gBig : List (Nat × List AV) := (0, [.big (1 + 1)]) :: gRest
def gLow : List (Nat × List AV) := (0, [.low 1]) :: gRest
theorem okAny : glOk 8 gAny = true := by kernel_rfl
theorem okBig : glOk 8 gBig = true := by kernel_rfl
theorem okLow : glOk 8 gLow = true := by kernel_rfl
noncomputable def cBig : Ctx := ctxG Tryz.prog (glHeap 8 gBig) .leaf
noncomputable def cLow : Ctx := ctxG Tryz.prog (glHeap 8 gLow) .leaf
def idx : List (List AV × AV) :=
 [([.str [40, 91, 123], .str [58, 110]], .int .i64 (-1)),
  ([.str [41, 93, 125], .str [102]], .int .i64 (-1)),
  ([.str [40, 91, 123], .str [102, 105, 110, 100]], .int .i64 (-1)),
  ([.str [40, 91, 123], .str [58, 97]], .int .i64 (-1)),
  ([.str [115, 117, 109, 32, 108, 101, 97, 115, 116, 32, 103, 114, 101, 97, 116, 101, 115, 116], .str [32]], .int .i64 (3)),
  ([.str [40, 91, 123], .str [53]], .int .i64 (-1)),
  ([.str [41, 93, 125], .str [103]], .int .i64 (-1)),
  ([.str [114, 117, 108, 101, 32, 113, 117, 101, 114, 121, 32, 102, 105, 110, 100, 32, 105, 110, 32, 119, 105, 116, 104, 32, 119, 104, 101, 114, 101, 32, 99, 111, 117, 110, 116, 32, 100, 105, 115, 116, 105, 110, 99, 116, 32, 115, 117, 109, 32, 108, 101, 97, 115, 116, 32, 103, 114, 101, 97, 116, 101, 115, 116], .str [32]], .int .i64 (4)),
  ([.str [45, 62, 32, 110, 111, 116, 32, 111, 114, 32, 97, 110, 100, 32, 114, 117, 108, 101, 32, 113, 117, 101, 114, 121, 32, 102, 105, 110, 100, 32, 105, 110, 32, 119, 105, 116, 104, 32, 119, 104, 101, 114, 101, 32, 99, 111, 117, 110, 116, 32, 100, 105, 115, 116, 105, 110, 99, 116, 32, 115, 117, 109, 32, 108, 101, 97, 115, 116, 32, 103, 114, 101, 97, 116, 101, 115, 116], .str [32]], .int .i64 (2)),
  ([.str [40, 91, 123], .str [63, 121]], .int .i64 (-1)),
  ([.str [102, 105, 110, 100, 32, 105, 110, 32, 119, 105, 116, 104, 32, 119, 104, 101, 114, 101, 32, 99, 111, 117, 110, 116, 32, 100, 105, 115, 116, 105, 110, 99, 116, 32, 115, 117, 109, 32, 108, 101, 97, 115, 116, 32, 103, 114, 101, 97, 116, 101, 115, 116], .str [32]], .int .i64 (4)),
  ([.str [40, 91, 123], .str [45, 62]], .int .i64 (-1)),
  ([.str [41, 93, 125], .str [91]], .int .i64 (-1)),
  ([.str [110, 111, 116, 32, 111, 114, 32, 97, 110, 100, 32, 114, 117, 108, 101, 32, 113, 117, 101, 114, 121, 32, 102, 105, 110, 100, 32, 105, 110, 32, 119, 105, 116, 104, 32, 119, 104, 101, 114, 101, 32, 99, 111, 117, 110, 116, 32, 100, 105, 115, 116, 105, 110, 99, 116, 32, 115, 117, 109, 32, 108, 101, 97, 115, 116, 32, 103, 114, 101, 97, 116, 101, 115, 116], .str [32]], .int .i64 (3)),
  ([.str [40, 91, 123], .str [58, 98]], .int .i64 (-1)),
  ([.str [41, 93, 125], .str [104]], .int .i64 (-1)),
  ([.str [119, 104, 101, 114, 101, 32, 99, 111, 117, 110, 116, 32, 100, 105, 115, 116, 105, 110, 99, 116, 32, 115, 117, 109, 32, 108, 101, 97, 115, 116, 32, 103, 114, 101, 97, 116, 101, 115, 116], .str [32]], .int .i64 (5)),
  ([.str [41, 93, 125], .str [93]], .int .i64 (1)),
  ([.str [40, 91, 123], .str [51]], .int .i64 (-1)),
  ([.str [40, 91, 123], .str [119, 104, 101, 114, 101]], .int .i64 (-1)),
  ([.str [41, 93, 125], .str [63, 122]], .int .i64 (-1)),
  ([.str [40, 91, 123], .str [43]], .int .i64 (-1)),
  ([.str [99, 111, 117, 110, 116, 32, 100, 105, 115, 116, 105, 110, 99, 116, 32, 115, 117, 109, 32, 108, 101, 97, 115, 116, 32, 103, 114, 101, 97, 116, 101, 115, 116], .str [32]], .int .i64 (5)),
  ([.str [41, 93, 125], .str [114, 117, 108, 101]], .int .i64 (-1)),
  ([.str [41, 93, 125], .str [63, 121]], .int .i64 (-1)),
  ([.str [40, 91, 123], .str [111, 114]], .int .i64 (-1)),
  ([.str [41, 93, 125], .str [41]], .int .i64 (0)),
  ([.str [41, 93, 125], .str [51]], .int .i64 (-1)),
  ([.str [108, 101, 97, 115, 116, 32, 103, 114, 101, 97, 116, 101, 115, 116], .str [32]], .int .i64 (5)),
  ([.str [40, 91, 123], .str [103]], .int .i64 (-1)),
  ([.str [41, 93, 125], .str [40]], .int .i64 (-1)),
  ([.str [111, 114, 32, 97, 110, 100, 32, 114, 117, 108, 101, 32, 113, 117, 101, 114, 121, 32, 102, 105, 110, 100, 32, 105, 110, 32, 119, 105, 116, 104, 32, 119, 104, 101, 114, 101, 32, 99, 111, 117, 110, 116, 32, 100, 105, 115, 116, 105, 110, 99, 116, 32, 115, 117, 109, 32, 108, 101, 97, 115, 116, 32, 103, 114, 101, 97, 116, 101, 115, 116], .str [32]], .int .i64 (2)),
  ([.str [41, 93, 125], .str [58, 110]], .int .i64 (-1)),
  ([.str [41, 93, 125], .str [95]], .int .i64 (-1)),
  ([.str [41, 93, 125], .str [49]], .int .i64 (-1)),
  ([.str [40, 91, 123], .str [40]], .int .i64 (0)),
  ([.str [41, 93, 125], .str [60]], .int .i64 (-1)),
  ([.str [40, 91, 123], .str [114, 117, 108, 101]], .int .i64 (-1)),
  ([.str [41, 93, 125], .str [111, 114]], .int .i64 (-1)),
  ([.str [41, 93, 125], .str [45, 62]], .int .i64 (-1)),
  ([.str [41, 93, 125], .str [105, 110]], .int .i64 (-1)),
  ([.str [41, 93, 125], .str [43]], .int .i64 (-1)),
  ([.str [40, 91, 123], .str [113, 117, 101, 114, 121]], .int .i64 (-1)),
  ([.str [41, 93, 125], .str [58, 97]], .int .i64 (-1)),
  ([.str [40, 91, 123], .str [58, 99]], .int .i64 (-1)),
  ([.str [40, 91, 123], .str [105, 110]], .int .i64 (-1)),
  ([.str [40, 91, 123], .str [110, 111, 116]], .int .i64 (-1)),
  ([.str [41, 93, 125], .str [119, 104, 101, 114, 101]], .int .i64 (-1)),
  ([.str [41, 93, 125], .str [58, 98]], .int .i64 (-1)),
  ([.str [113, 117, 101, 114, 121, 32, 102, 105, 110, 100, 32, 105, 110, 32, 119, 105, 116, 104, 32, 119, 104, 101, 114, 101, 32, 99, 111, 117, 110, 116, 32, 100, 105, 115, 116, 105, 110, 99, 116, 32, 115, 117, 109, 32, 108, 101, 97, 115, 116, 32, 103, 114, 101, 97, 116, 101, 115, 116], .str [32]], .int .i64 (5)),
  ([.str [100, 105, 115, 116, 105, 110, 99, 116, 32, 115, 117, 109, 32, 108, 101, 97, 115, 116, 32, 103, 114, 101, 97, 116, 101, 115, 116], .str [32]], .int .i64 (8)),
  ([.str [95, 32, 45, 62, 32, 110, 111, 116, 32, 111, 114, 32, 97, 110, 100, 32, 114, 117, 108, 101, 32, 113, 117, 101, 114, 121, 32, 102, 105, 110, 100, 32, 105, 110, 32, 119, 105, 116, 104, 32, 119, 104, 101, 114, 101, 32, 99, 111, 117, 110, 116, 32, 100, 105, 115, 116, 105, 110, 99, 116, 32, 115, 117, 109, 32, 108, 101, 97, 115, 116, 32, 103, 114, 101, 97, 116, 101, 115, 116], .str [32]], .int .i64 (1)),
  ([.str [97, 110, 100, 32, 114, 117, 108, 101, 32, 113, 117, 101, 114, 121, 32, 102, 105, 110, 100, 32, 105, 110, 32, 119, 105, 116, 104, 32, 119, 104, 101, 114, 101, 32, 99, 111, 117, 110, 116, 32, 100, 105, 115, 116, 105, 110, 99, 116, 32, 115, 117, 109, 32, 108, 101, 97, 115, 116, 32, 103, 114, 101, 97, 116, 101, 115, 116], .str [32]], .int .i64 (3)),
  ([.str [41, 93, 125], .str [102, 105, 110, 100]], .int .i64 (-1)),
  ([.str [41, 93, 125], .str [110, 111, 116]], .int .i64 (-1)),
  ([.str [40, 91, 123], .str [102]], .int .i64 (-1)),
  ([.str [105, 110, 32, 119, 105, 116, 104, 32, 119, 104, 101, 114, 101, 32, 99, 111, 117, 110, 116, 32, 100, 105, 115, 116, 105, 110, 99, 116, 32, 115, 117, 109, 32, 108, 101, 97, 115, 116, 32, 103, 114, 101, 97, 116, 101, 115, 116], .str [32]], .int .i64 (2)),
  ([.str [40, 91, 123], .str [63, 120]], .int .i64 (-1)),
  ([.str [40, 91, 123], .str [104]], .int .i64 (-1)),
  ([.str [40, 91, 123], .str [49]], .int .i64 (-1)),
  ([.str [40, 91, 123], .str [63, 122]], .int .i64 (-1)),
  ([.str [41, 93, 125], .str [53]], .int .i64 (-1)),
  ([.str [40, 91, 123], .str [91]], .int .i64 (1)),
  ([.str [41, 93, 125], .str [97, 110, 100]], .int .i64 (-1)),
  ([.str [41, 93, 125], .str [63, 120]], .int .i64 (-1)),
  ([.str [119, 105, 116, 104, 32, 119, 104, 101, 114, 101, 32, 99, 111, 117, 110, 116, 32, 100, 105, 115, 116, 105, 110, 99, 116, 32, 115, 117, 109, 32, 108, 101, 97, 115, 116, 32, 103, 114, 101, 97, 116, 101, 115, 116], .str [32]], .int .i64 (4)),
  ([.str [40, 91, 123], .str [95]], .int .i64 (-1)),
  ([.str [41, 93, 125], .str [113, 117, 101, 114, 121]], .int .i64 (-1)),
  ([.str [41, 93, 125], .str [58, 99]], .int .i64 (-1)),
  ([.str [40, 91, 123], .str [97, 110, 100]], .int .i64 (-1)),
  ([.str [40, 91, 123], .str [60]], .int .i64 (-1))]
set_option maxRecDepth 1000000 in
theorem idxBig : allRun cBig 100000 (extT xs) 80 31 idx = true := by kernel_rfl
set_option maxRecDepth 1000000 in
theorem idxLow : allRun cLow 100000 (extT xs) 80 31 idx = true := by kernel_rfl
theorem idxOk (p : List AV × AV) (hp : p ∈ idx) : clAll p.1 = true ∧ KnownOk (ctxG Tryz.prog (glHeap 8 gAny) .leaf) 31 p.1 p.2 := by
  obtain ⟨h1, h2⟩ := allRun_ok (c := cBig) (ctxG_ok names) (kn_none rfl (glHeap_cells okBig)) mixed (extT_ok xsOk) (glHeap_base okBig) idxBig p hp
  obtain ⟨_, h3⟩ := allRun_ok (c := cLow) (ctxG_ok names) (kn_none rfl (glHeap_cells okLow)) mixed (extT_ok xsOk) (glHeap_base okLow) idxLow p hp
  exact ⟨h1, KnownOk.two (n := 1) h2 h3⟩
def xs1 : List (FuncId × List (List AV × AV)) := [(31, idx)]
noncomputable def c1 : Ctx := ctxG Tryz.prog (glHeap 8 gAny) (knT xs1)
theorem kn1 : KnOk c1 := kn_table (glHeap_cells okAny) (fun q hq p hp => by
  simp only [xs1, List.mem_cons, List.not_mem_nil, or_false] at hq
  subst hq; exact idxOk p hp)

end Go.Proofs.YtaopfnhkfedemaaGreatDoor.strataNames
