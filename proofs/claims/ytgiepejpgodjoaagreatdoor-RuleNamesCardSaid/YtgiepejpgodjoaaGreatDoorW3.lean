/- RuleNames: known calls of great functions, each run by itself. No condition. -/
import Derived.Test.YtgiepejpgodjoaaGreatDoorKb
namespace Go.Proofs.YtgiepejpgodjoaaGreatDoor.ruleNames
open Go.Ax
set_option linter.unusedVariables false

def w3_0 : List (List AV × AV) := [([.str [40, 114, 117, 108, 101, 32, 40, 102, 32, 63, 120, 41, 32, 91, 63, 120, 32, 58, 97, 32, 49, 93, 41, 10, 32, 40, 114, 117, 108, 101, 32, 40, 110, 111, 116, 32, 63, 120, 41, 32, 91, 63, 120, 32, 58, 97, 32, 49, 93, 41, 10, 40, 113, 117, 101, 114, 121, 32, 40, 102, 105, 110, 100, 32, 63, 120, 41, 32, 40, 119, 104, 101, 114, 101, 32, 40, 102, 32, 63, 120, 41, 41, 41], .int .i64 (120), .int .i64 (2), .int .i64 (2)], .bool true)]
set_option maxRecDepth 1000000 in
theorem w3_0r : allRun c2 100000 (extT xs) 80 4 w3_0 = true := by kernel_rfl
theorem w3_0k (p : List AV × AV) (hp : p ∈ w3_0) : clAll p.1 = true ∧ KnownOk (ctxG Tryz.prog (glHeap 8 gAny) .leaf) 4 p.1 p.2 :=
  allRun_ok (c := c2) (ctxG_ok names) kn2 mixed (extT_ok xsOk) (glHeap_base okAny) w3_0r p hp
def w3_1 : List (List AV × AV) := [([.str [40, 113, 117, 101, 114, 121, 32, 40, 102, 105, 110, 100, 32, 63, 120, 41, 32, 40, 105, 110, 32, 63, 121, 32, 63, 121, 41, 32, 40, 119, 104, 101, 114, 101, 32, 91, 63, 120, 32, 58, 110, 32, 49, 93, 41, 41], .int .i64 (120), .int .i64 (1), .int .i64 (1)], .bool true)]
set_option maxRecDepth 1000000 in
theorem w3_1r : allRun c2 100000 (extT xs) 80 4 w3_1 = true := by kernel_rfl
theorem w3_1k (p : List AV × AV) (hp : p ∈ w3_1) : clAll p.1 = true ∧ KnownOk (ctxG Tryz.prog (glHeap 8 gAny) .leaf) 4 p.1 p.2 :=
  allRun_ok (c := c2) (ctxG_ok names) kn2 mixed (extT_ok xsOk) (glHeap_base okAny) w3_1r p hp
def w3_2 : List (List AV × AV) := [([.str [40, 113, 117, 101, 114, 121, 32, 40, 102, 105, 110, 100, 32, 63, 120, 41, 32, 40, 119, 104, 101, 114, 101, 32, 91, 63, 120, 32, 58, 110, 32, 49, 32, 50, 32, 116, 114, 117, 101, 32, 51, 93, 41, 41], .int .i64 (120), .int .i64 (1), .int .i64 (1)], .bool true)]
set_option maxRecDepth 1000000 in
theorem w3_2r : allRun c2 100000 (extT xs) 80 4 w3_2 = true := by kernel_rfl
theorem w3_2k (p : List AV × AV) (hp : p ∈ w3_2) : clAll p.1 = true ∧ KnownOk (ctxG Tryz.prog (glHeap 8 gAny) .leaf) 4 p.1 p.2 :=
  allRun_ok (c := c2) (ctxG_ok names) kn2 mixed (extT_ok xsOk) (glHeap_base okAny) w3_2r p hp
def w3_3 : List (List AV × AV) := [([.str [40, 113, 117, 101, 114, 121, 32, 40, 102, 105, 110, 100, 32, 63, 120, 41, 32, 40, 119, 104, 101, 114, 101, 32, 40, 43, 32, 63, 120, 32, 49, 32, 45, 62, 32, 50, 41, 41, 41], .int .i64 (120), .int .i64 (1), .int .i64 (1)], .bool true)]
set_option maxRecDepth 1000000 in
theorem w3_3r : allRun c2 100000 (extT xs) 80 4 w3_3 = true := by kernel_rfl
theorem w3_3k (p : List AV × AV) (hp : p ∈ w3_3) : clAll p.1 = true ∧ KnownOk (ctxG Tryz.prog (glHeap 8 gAny) .leaf) 4 p.1 p.2 :=
  allRun_ok (c := c2) (ctxG_ok names) kn2 mixed (extT_ok xsOk) (glHeap_base okAny) w3_3r p hp
def w3_4 : List (List AV × AV) := [([.str [40, 113, 117, 101, 114, 121, 32, 40, 102, 105, 110, 100, 32, 63, 120, 41, 32, 40, 119, 104, 101, 114, 101, 32, 91, 63, 120, 32, 34, 110, 34, 32, 49, 93, 41, 41], .int .i64 (120), .int .i64 (1), .int .i64 (1)], .bool true)]
set_option maxRecDepth 1000000 in
theorem w3_4r : allRun c2 100000 (extT xs) 80 4 w3_4 = true := by kernel_rfl
theorem w3_4k (p : List AV × AV) (hp : p ∈ w3_4) : clAll p.1 = true ∧ KnownOk (ctxG Tryz.prog (glHeap 8 gAny) .leaf) 4 p.1 p.2 :=
  allRun_ok (c := c2) (ctxG_ok names) kn2 mixed (extT_ok xsOk) (glHeap_base okAny) w3_4r p hp
def w3_5 : List (List AV × AV) := [([.str [40, 113, 117, 101, 114, 121, 32, 40, 102, 105, 110, 100, 32, 120, 41, 32, 40, 119, 104, 101, 114, 101, 32, 91, 63, 120, 32, 58, 110, 32, 49, 93, 41, 41], .int .i64 (120), .int .i64 (1), .int .i64 (1)], .bool true)]
set_option maxRecDepth 1000000 in
theorem w3_5r : allRun c2 100000 (extT xs) 80 4 w3_5 = true := by kernel_rfl
theorem w3_5k (p : List AV × AV) (hp : p ∈ w3_5) : clAll p.1 = true ∧ KnownOk (ctxG Tryz.prog (glHeap 8 gAny) .leaf) 4 p.1 p.2 :=
  allRun_ok (c := c2) (ctxG_ok names) kn2 mixed (extT_ok xsOk) (glHeap_base okAny) w3_5r p hp
def w3_6 : List (List AV × AV) := [([.str [40, 113, 117, 101, 114, 121, 32, 40, 102, 105, 110, 100, 32, 63, 120, 41, 32, 40, 105, 110, 41, 32, 40, 119, 104, 101, 114, 101, 32, 91, 63, 120, 32, 58, 110, 32, 49, 93, 41, 41], .int .i64 (120), .int .i64 (1), .int .i64 (1)], .bool true)]
set_option maxRecDepth 1000000 in
theorem w3_6r : allRun c2 100000 (extT xs) 80 4 w3_6 = true := by kernel_rfl
theorem w3_6k (p : List AV × AV) (hp : p ∈ w3_6) : clAll p.1 = true ∧ KnownOk (ctxG Tryz.prog (glHeap 8 gAny) .leaf) 4 p.1 p.2 :=
  allRun_ok (c := c2) (ctxG_ok names) kn2 mixed (extT_ok xsOk) (glHeap_base okAny) w3_6r p hp
def w3_7 : List (List AV × AV) := [([.str [120], .int .i64 (120), .int .i64 (1), .int .i64 (1)], .bool true)]
set_option maxRecDepth 1000000 in
theorem w3_7r : allRun c2 100000 (extT xs) 80 4 w3_7 = true := by kernel_rfl
theorem w3_7k (p : List AV × AV) (hp : p ∈ w3_7) : clAll p.1 = true ∧ KnownOk (ctxG Tryz.prog (glHeap 8 gAny) .leaf) 4 p.1 p.2 :=
  allRun_ok (c := c2) (ctxG_ok names) kn2 mixed (extT_ok xsOk) (glHeap_base okAny) w3_7r p hp
def w3_8 : List (List AV × AV) := [([.str [], .int .i64 (120), .int .i64 (1), .int .i64 (1)], .bool true)]
set_option maxRecDepth 1000000 in
theorem w3_8r : allRun c2 100000 (extT xs) 80 4 w3_8 = true := by kernel_rfl
theorem w3_8k (p : List AV × AV) (hp : p ∈ w3_8) : clAll p.1 = true ∧ KnownOk (ctxG Tryz.prog (glHeap 8 gAny) .leaf) 4 p.1 p.2 :=
  allRun_ok (c := c2) (ctxG_ok names) kn2 mixed (extT_ok xsOk) (glHeap_base okAny) w3_8r p hp

end Go.Proofs.YtgiepejpgodjoaaGreatDoor.ruleNames
