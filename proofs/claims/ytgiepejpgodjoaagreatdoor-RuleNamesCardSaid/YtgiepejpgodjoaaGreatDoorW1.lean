/- RuleNames: known calls of great functions, each run by itself. No condition. -/
import Derived.Test.YtgiepejpgodjoaaGreatDoorKb
namespace Go.Proofs.YtgiepejpgodjoaaGreatDoor.ruleNames
open Go.Ax
set_option linter.unusedVariables false

def w1_0 : List (List AV × AV) := [([.str [40, 113, 117, 101, 114, 121, 32, 40, 102, 105, 110, 100, 32, 40, 99, 111, 117, 110, 116, 41, 41, 32, 40, 105, 110, 32, 63, 97, 41, 32, 40, 119, 104, 101, 114, 101, 32, 91, 95, 32, 58, 110, 32, 63, 110, 93, 32, 40, 43, 32, 63, 110, 32, 63, 97, 32, 45, 62, 32, 63, 109, 41, 32, 40, 111, 114, 32, 40, 61, 32, 63, 109, 32, 53, 41, 32, 40, 97, 110, 100, 32, 40, 60, 32, 63, 109, 32, 48, 41, 32, 91, 63, 109, 32, 58, 110, 32, 95, 93, 41, 41, 41, 41], .int .i64 (0), .int .i64 (0), .int .i64 (0)], .bool true)]
set_option maxRecDepth 1000000 in
theorem w1_0r : allRun c2 100000 (extT xs) 80 4 w1_0 = true := by kernel_rfl
theorem w1_0k (p : List AV × AV) (hp : p ∈ w1_0) : clAll p.1 = true ∧ KnownOk (ctxG Tryz.prog (glHeap 8 gAny) .leaf) 4 p.1 p.2 :=
  allRun_ok (c := c2) (ctxG_ok names) kn2 mixed (extT_ok xsOk) (glHeap_base okAny) w1_0r p hp
def w1_1 : List (List AV × AV) := [([.str [40, 113, 117, 101, 114, 121, 32, 40, 102, 105, 110, 100, 32, 40, 99, 111, 117, 110, 116, 32, 63, 120, 41, 41, 32, 40, 119, 104, 101, 114, 101, 32, 91, 63, 120, 32, 58, 110, 32, 49, 93, 41, 41], .int .i64 (120), .int .i64 (1), .int .i64 (1)], .bool true)]
set_option maxRecDepth 1000000 in
theorem w1_1r : allRun c2 100000 (extT xs) 80 4 w1_1 = true := by kernel_rfl
theorem w1_1k (p : List AV × AV) (hp : p ∈ w1_1) : clAll p.1 = true ∧ KnownOk (ctxG Tryz.prog (glHeap 8 gAny) .leaf) 4 p.1 p.2 :=
  allRun_ok (c := c2) (ctxG_ok names) kn2 mixed (extT_ok xsOk) (glHeap_base okAny) w1_1r p hp
def w1_2 : List (List AV × AV) := [([.str [40, 113, 117, 101, 114, 121, 32, 40, 102, 105, 110, 100, 32, 40, 115, 117, 109, 41, 41, 32, 40, 119, 104, 101, 114, 101, 32, 91, 63, 120, 32, 58, 110, 32, 49, 93, 41, 41], .int .i64 (120), .int .i64 (1), .int .i64 (1)], .bool true)]
set_option maxRecDepth 1000000 in
theorem w1_2r : allRun c2 100000 (extT xs) 80 4 w1_2 = true := by kernel_rfl
theorem w1_2k (p : List AV × AV) (hp : p ∈ w1_2) : clAll p.1 = true ∧ KnownOk (ctxG Tryz.prog (glHeap 8 gAny) .leaf) 4 p.1 p.2 :=
  allRun_ok (c := c2) (ctxG_ok names) kn2 mixed (extT_ok xsOk) (glHeap_base okAny) w1_2r p hp
def w1_3 : List (List AV × AV) := [([.str [40, 113, 117, 101, 114, 121, 32, 40, 102, 105, 110, 100, 32, 63, 120, 41, 32, 40, 119, 104, 101, 114, 101, 32, 91, 49, 32, 58, 110, 32, 63, 120, 93, 41, 41], .int .i64 (120), .int .i64 (1), .int .i64 (1)], .bool true)]
set_option maxRecDepth 1000000 in
theorem w1_3r : allRun c2 100000 (extT xs) 80 4 w1_3 = true := by kernel_rfl
theorem w1_3k (p : List AV × AV) (hp : p ∈ w1_3) : clAll p.1 = true ∧ KnownOk (ctxG Tryz.prog (glHeap 8 gAny) .leaf) 4 p.1 p.2 :=
  allRun_ok (c := c2) (ctxG_ok names) kn2 mixed (extT_ok xsOk) (glHeap_base okAny) w1_3r p hp
def w1_4 : List (List AV × AV) := [([.str [40, 113, 117, 101, 114, 121, 32, 40, 102, 105, 110, 100, 32, 63, 120, 41, 32, 40, 119, 104, 101, 114, 101, 32, 91, 63, 120, 32, 63, 97, 93, 41, 41], .int .i64 (120), .int .i64 (1), .int .i64 (1)], .bool true)]
set_option maxRecDepth 1000000 in
theorem w1_4r : allRun c2 100000 (extT xs) 80 4 w1_4 = true := by kernel_rfl
theorem w1_4k (p : List AV × AV) (hp : p ∈ w1_4) : clAll p.1 = true ∧ KnownOk (ctxG Tryz.prog (glHeap 8 gAny) .leaf) 4 p.1 p.2 :=
  allRun_ok (c := c2) (ctxG_ok names) kn2 mixed (extT_ok xsOk) (glHeap_base okAny) w1_4r p hp
def w1_5 : List (List AV × AV) := [([.str [40, 113, 117, 101, 114, 121, 32, 40, 102, 105, 110, 100, 32, 63, 120, 41, 32, 40, 119, 104, 101, 114, 101, 41, 41], .int .i64 (120), .int .i64 (1), .int .i64 (1)], .bool true)]
set_option maxRecDepth 1000000 in
theorem w1_5r : allRun c2 100000 (extT xs) 80 4 w1_5 = true := by kernel_rfl
theorem w1_5k (p : List AV × AV) (hp : p ∈ w1_5) : clAll p.1 = true ∧ KnownOk (ctxG Tryz.prog (glHeap 8 gAny) .leaf) 4 p.1 p.2 :=
  allRun_ok (c := c2) (ctxG_ok names) kn2 mixed (extT_ok xsOk) (glHeap_base okAny) w1_5r p hp
def w1_6 : List (List AV × AV) := [([.str [40, 113, 117, 101, 114, 121, 32, 40, 102, 105, 110, 100, 32, 63, 120, 41], .int .i64 (50), .int .i64 (1), .int .i64 (17)], .bool true)]
set_option maxRecDepth 1000000 in
theorem w1_6r : allRun c2 100000 (extT xs) 80 4 w1_6 = true := by kernel_rfl
theorem w1_6k (p : List AV × AV) (hp : p ∈ w1_6) : clAll p.1 = true ∧ KnownOk (ctxG Tryz.prog (glHeap 8 gAny) .leaf) 4 p.1 p.2 :=
  allRun_ok (c := c2) (ctxG_ok names) kn2 mixed (extT_ok xsOk) (glHeap_base okAny) w1_6r p hp

end Go.Proofs.YtgiepejpgodjoaaGreatDoor.ruleNames
