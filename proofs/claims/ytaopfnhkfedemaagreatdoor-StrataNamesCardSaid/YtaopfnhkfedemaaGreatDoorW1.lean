/- StrataNames: known calls of great functions, each run by itself. No condition. -/
import Derived.Test.YtaopfnhkfedemaaGreatDoorKb
namespace Go.Proofs.YtaopfnhkfedemaaGreatDoor.strataNames
open Go.Ax
set_option linter.unusedVariables false

def w1_0 : List (List AV × AV) := [([], .bool true)]
set_option maxRecDepth 1000000 in
theorem w1_0r : allRun c2 100000 (extT xs) 80 12 w1_0 = true := by kernel_rfl
theorem w1_0k (p : List AV × AV) (hp : p ∈ w1_0) : clAll p.1 = true ∧ KnownOk (ctxG Tryz.prog (glHeap 8 gAny) .leaf) 12 p.1 p.2 :=
  allRun_ok (c := c2) (ctxG_ok names) kn2 mixed (extT_ok xsOk) (glHeap_base okAny) w1_0r p hp
def w1_1 : List (List AV × AV) := [([.str [40, 114, 117, 108, 101, 32, 40, 102, 32, 63, 120, 32, 63, 121, 41, 32, 91, 63, 120, 32, 58, 97, 32, 49, 93, 41, 40, 113, 117, 101, 114, 121, 32, 40, 102, 105, 110, 100, 32, 63, 120, 41, 32, 40, 119, 104, 101, 114, 101, 32, 40, 102, 32, 63, 120, 32, 63, 120, 41, 41, 41], .int .i64 (130)], .bool true)]
set_option maxRecDepth 1000000 in
theorem w1_1r : allRun c2 100000 (extT xs) 80 10 w1_1 = true := by kernel_rfl
theorem w1_1k (p : List AV × AV) (hp : p ∈ w1_1) : clAll p.1 = true ∧ KnownOk (ctxG Tryz.prog (glHeap 8 gAny) .leaf) 10 p.1 p.2 :=
  allRun_ok (c := c2) (ctxG_ok names) kn2 mixed (extT_ok xsOk) (glHeap_base okAny) w1_1r p hp
def w1_2 : List (List AV × AV) := [([.str [40, 113, 117, 101, 114, 121, 32, 40, 102, 105, 110, 100, 32, 63, 121, 41, 32, 40, 105, 110, 32, 63, 121, 41, 32, 40, 119, 104, 101, 114, 101, 32, 91, 63, 120, 32, 58, 97, 32, 49, 93, 41, 41], .int .i64 (0)], .bool true)]
set_option maxRecDepth 1000000 in
theorem w1_2r : allRun c2 100000 (extT xs) 80 10 w1_2 = true := by kernel_rfl
theorem w1_2k (p : List AV × AV) (hp : p ∈ w1_2) : clAll p.1 = true ∧ KnownOk (ctxG Tryz.prog (glHeap 8 gAny) .leaf) 10 p.1 p.2 :=
  allRun_ok (c := c2) (ctxG_ok names) kn2 mixed (extT_ok xsOk) (glHeap_base okAny) w1_2r p hp

end Go.Proofs.YtaopfnhkfedemaaGreatDoor.strataNames
