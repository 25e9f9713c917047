/- RuleNames: known calls of great functions, each run by itself. No condition. -/
import Derived.Test.YtgiepejpgodjoaaGreatDoorKb
namespace Go.Proofs.YtgiepejpgodjoaaGreatDoor.ruleNames
open Go.Ax
set_option linter.unusedVariables false

def w0_0 : List (List AV × AV) := [([], .bool true)]
set_option maxRecDepth 1000000 in
theorem w0_0r : allRun c2 100000 (extT xs) 80 7 w0_0 = true := by kernel_rfl
theorem w0_0k (p : List AV × AV) (hp : p ∈ w0_0) : clAll p.1 = true ∧ KnownOk (ctxG Tryz.prog (glHeap 8 gAny) .leaf) 7 p.1 p.2 :=
  allRun_ok (c := c2) (ctxG_ok names) kn2 mixed (extT_ok xsOk) (glHeap_base okAny) w0_0r p hp
def w0_1 : List (List AV × AV) := [([.str [40, 113, 117, 101, 114, 121, 32, 40, 102, 105, 110, 100, 32, 63, 120, 41, 32, 40, 119, 104, 101, 114, 101, 32, 40, 97, 110, 100, 32, 91, 63, 120, 32, 58, 110, 32, 49, 93, 41, 41, 41], .int .i64 (120), .int .i64 (1), .int .i64 (1)], .bool true)]
set_option maxRecDepth 1000000 in
theorem w0_1r : allRun c2 100000 (extT xs) 80 4 w0_1 = true := by kernel_rfl
theorem w0_1k (p : List AV × AV) (hp : p ∈ w0_1) : clAll p.1 = true ∧ KnownOk (ctxG Tryz.prog (glHeap 8 gAny) .leaf) 4 p.1 p.2 :=
  allRun_ok (c := c2) (ctxG_ok names) kn2 mixed (extT_ok xsOk) (glHeap_base okAny) w0_1r p hp
def w0_2 : List (List AV × AV) := [([.str [40, 113, 117, 101, 114, 121, 32, 40, 102, 105, 110, 100, 32, 63, 120, 41, 32, 40, 119, 104, 101, 114, 101, 32, 40, 102, 32, 63, 120, 41, 41, 41, 10, 40, 114, 117, 108, 101, 32, 40, 102, 32, 63, 120, 41, 32, 91, 63, 120, 32, 58, 97, 32, 49, 93, 41], .int .i64 (120), .int .i64 (1), .int .i64 (1)], .bool true)]
set_option maxRecDepth 1000000 in
theorem w0_2r : allRun c2 100000 (extT xs) 80 4 w0_2 = true := by kernel_rfl
theorem w0_2k (p : List AV × AV) (hp : p ∈ w0_2) : clAll p.1 = true ∧ KnownOk (ctxG Tryz.prog (glHeap 8 gAny) .leaf) 4 p.1 p.2 :=
  allRun_ok (c := c2) (ctxG_ok names) kn2 mixed (extT_ok xsOk) (glHeap_base okAny) w0_2r p hp
def w0_3 : List (List AV × AV) := [([.str [40, 113, 117, 101, 114, 121, 32, 40, 102, 105, 110, 100, 32, 63, 120, 41, 32, 40, 119, 104, 101, 114, 101, 32, 40, 43, 32, 63, 120, 32, 49, 41, 41, 41], .int .i64 (120), .int .i64 (1), .int .i64 (1)], .bool true)]
set_option maxRecDepth 1000000 in
theorem w0_3r : allRun c2 100000 (extT xs) 80 4 w0_3 = true := by kernel_rfl
theorem w0_3k (p : List AV × AV) (hp : p ∈ w0_3) : clAll p.1 = true ∧ KnownOk (ctxG Tryz.prog (glHeap 8 gAny) .leaf) 4 p.1 p.2 :=
  allRun_ok (c := c2) (ctxG_ok names) kn2 mixed (extT_ok xsOk) (glHeap_base okAny) w0_3r p hp
def w0_4 : List (List AV × AV) := [([.str [40, 113, 117, 101, 114, 121, 32, 40, 102, 105, 110, 100, 32, 63, 120, 41, 32, 40, 119, 104, 101, 114, 101, 32, 40, 110, 111, 116, 41, 41, 41], .int .i64 (120), .int .i64 (1), .int .i64 (1)], .bool true)]
set_option maxRecDepth 1000000 in
theorem w0_4r : allRun c2 100000 (extT xs) 80 4 w0_4 = true := by kernel_rfl
theorem w0_4k (p : List AV × AV) (hp : p ∈ w0_4) : clAll p.1 = true ∧ KnownOk (ctxG Tryz.prog (glHeap 8 gAny) .leaf) 4 p.1 p.2 :=
  allRun_ok (c := c2) (ctxG_ok names) kn2 mixed (extT_ok xsOk) (glHeap_base okAny) w0_4r p hp
def w0_5 : List (List AV × AV) := [([.str [40, 113, 117, 101, 114, 121, 32, 40, 102, 105, 110, 100, 41, 32, 40, 119, 104, 101, 114, 101, 32, 91, 63, 120, 32, 58, 110, 32, 49, 93, 41, 41], .int .i64 (120), .int .i64 (1), .int .i64 (1)], .bool true)]
set_option maxRecDepth 1000000 in
theorem w0_5r : allRun c2 100000 (extT xs) 80 4 w0_5 = true := by kernel_rfl
theorem w0_5k (p : List AV × AV) (hp : p ∈ w0_5) : clAll p.1 = true ∧ KnownOk (ctxG Tryz.prog (glHeap 8 gAny) .leaf) 4 p.1 p.2 :=
  allRun_ok (c := c2) (ctxG_ok names) kn2 mixed (extT_ok xsOk) (glHeap_base okAny) w0_5r p hp

end Go.Proofs.YtgiepejpgodjoaaGreatDoor.ruleNames
