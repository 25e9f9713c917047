/- RuleNames: known calls of great functions, each run by itself. No condition. -/
import Derived.Test.YtgiepejpgodjoaaGreatDoorKb
namespace Go.Proofs.YtgiepejpgodjoaaGreatDoor.ruleNames
open Go.Ax
set_option linter.unusedVariables false

def w2_0 : List (List AV × AV) := [([.str [40, 113, 117, 101, 114, 121, 32, 40, 102, 105, 110, 100, 32, 63, 120, 32, 40, 115, 117, 109, 32, 63, 110, 41, 41, 32, 40, 119, 105, 116, 104, 32, 63, 121, 41, 32, 40, 119, 104, 101, 114, 101, 32, 91, 63, 120, 32, 58, 110, 32, 63, 110, 93, 32, 91, 63, 121, 32, 58, 111, 102, 32, 63, 120, 93, 32, 40, 110, 111, 116, 32, 40, 60, 32, 63, 110, 32, 48, 41, 41, 41, 41], .int .i64 (0), .int .i64 (0), .int .i64 (0)], .bool true)]
set_option maxRecDepth 1000000 in
theorem w2_0r : allRun c2 100000 (extT xs) 80 4 w2_0 = true := by kernel_rfl
theorem w2_0k (p : List AV × AV) (hp : p ∈ w2_0) : clAll p.1 = true ∧ KnownOk (ctxG Tryz.prog (glHeap 8 gAny) .leaf) 4 p.1 p.2 :=
  allRun_ok (c := c2) (ctxG_ok names) kn2 mixed (extT_ok xsOk) (glHeap_base okAny) w2_0r p hp
def w2_1 : List (List AV × AV) := [([.str [40, 114, 117, 108, 101, 32, 40, 102, 32, 63, 120, 32, 63, 120, 41, 32, 91, 63, 120, 32, 58, 97, 32, 49, 93, 41, 32, 40, 113, 117, 101, 114, 121, 32, 40, 102, 105, 110, 100, 32, 63, 120, 41, 32, 40, 119, 104, 101, 114, 101, 32, 40, 102, 32, 63, 120, 41, 41, 41], .int .i64 (120), .int .i64 (1), .int .i64 (1)], .bool true)]
set_option maxRecDepth 1000000 in
theorem w2_1r : allRun c2 100000 (extT xs) 80 4 w2_1 = true := by kernel_rfl
theorem w2_1k (p : List AV × AV) (hp : p ∈ w2_1) : clAll p.1 = true ∧ KnownOk (ctxG Tryz.prog (glHeap 8 gAny) .leaf) 4 p.1 p.2 :=
  allRun_ok (c := c2) (ctxG_ok names) kn2 mixed (extT_ok xsOk) (glHeap_base okAny) w2_1r p hp
def w2_2 : List (List AV × AV) := [([.str [40, 113, 117, 101, 114, 121, 32, 40, 102, 105, 110, 100, 32, 63, 120, 41, 32, 40, 119, 104, 101, 114, 101, 32, 91, 63, 120, 32, 58, 110, 32, 49, 93, 41, 32, 40, 105, 110, 32, 63, 121, 41, 41], .int .i64 (120), .int .i64 (1), .int .i64 (1)], .bool true)]
set_option maxRecDepth 1000000 in
theorem w2_2r : allRun c2 100000 (extT xs) 80 4 w2_2 = true := by kernel_rfl
theorem w2_2k (p : List AV × AV) (hp : p ∈ w2_2) : clAll p.1 = true ∧ KnownOk (ctxG Tryz.prog (glHeap 8 gAny) .leaf) 4 p.1 p.2 :=
  allRun_ok (c := c2) (ctxG_ok names) kn2 mixed (extT_ok xsOk) (glHeap_base okAny) w2_2r p hp
def w2_3 : List (List AV × AV) := [([.str [40, 113, 117, 101, 114, 121, 32, 40, 102, 105, 110, 100, 32, 63, 120, 41, 32, 40, 119, 104, 101, 114, 101, 32, 40, 60, 32, 63, 120, 32, 95, 41, 41, 41], .int .i64 (120), .int .i64 (1), .int .i64 (1)], .bool true)]
set_option maxRecDepth 1000000 in
theorem w2_3r : allRun c2 100000 (extT xs) 80 4 w2_3 = true := by kernel_rfl
theorem w2_3k (p : List AV × AV) (hp : p ∈ w2_3) : clAll p.1 = true ∧ KnownOk (ctxG Tryz.prog (glHeap 8 gAny) .leaf) 4 p.1 p.2 :=
  allRun_ok (c := c2) (ctxG_ok names) kn2 mixed (extT_ok xsOk) (glHeap_base okAny) w2_3r p hp
def w2_4 : List (List AV × AV) := [([.str [40, 113, 117, 101, 114, 121, 32, 40, 102, 105, 110, 100, 32, 63, 120, 41, 32, 40, 119, 104, 101, 114, 101, 32, 40, 102, 41, 41, 41], .int .i64 (120), .int .i64 (1), .int .i64 (1)], .bool true)]
set_option maxRecDepth 1000000 in
theorem w2_4r : allRun c2 100000 (extT xs) 80 4 w2_4 = true := by kernel_rfl
theorem w2_4k (p : List AV × AV) (hp : p ∈ w2_4) : clAll p.1 = true ∧ KnownOk (ctxG Tryz.prog (glHeap 8 gAny) .leaf) 4 p.1 p.2 :=
  allRun_ok (c := c2) (ctxG_ok names) kn2 mixed (extT_ok xsOk) (glHeap_base okAny) w2_4r p hp
def w2_5 : List (List AV × AV) := [([.str [40, 113, 117, 101, 114, 121, 32, 40, 119, 104, 101, 114, 101, 32, 91, 63, 120, 32, 58, 110, 32, 49, 93, 41, 32, 40, 102, 105, 110, 100, 32, 63, 120, 41, 41], .int .i64 (120), .int .i64 (1), .int .i64 (1)], .bool true)]
set_option maxRecDepth 1000000 in
theorem w2_5r : allRun c2 100000 (extT xs) 80 4 w2_5 = true := by kernel_rfl
theorem w2_5k (p : List AV × AV) (hp : p ∈ w2_5) : clAll p.1 = true ∧ KnownOk (ctxG Tryz.prog (glHeap 8 gAny) .leaf) 4 p.1 p.2 :=
  allRun_ok (c := c2) (ctxG_ok names) kn2 mixed (extT_ok xsOk) (glHeap_base okAny) w2_5r p hp
def w2_6 : List (List AV × AV) := [([.str [40, 114, 117, 108, 101, 32, 40, 97, 98, 111, 118, 101, 32, 63, 120, 32, 63, 121, 41, 32, 91, 63, 120, 32, 58, 97, 32, 63, 121, 93, 41], .int .i64 (120), .int .i64 (1), .int .i64 (1)], .bool true)]
set_option maxRecDepth 1000000 in
theorem w2_6r : allRun c2 100000 (extT xs) 80 4 w2_6 = true := by kernel_rfl
theorem w2_6k (p : List AV × AV) (hp : p ∈ w2_6) : clAll p.1 = true ∧ KnownOk (ctxG Tryz.prog (glHeap 8 gAny) .leaf) 4 p.1 p.2 :=
  allRun_ok (c := c2) (ctxG_ok names) kn2 mixed (extT_ok xsOk) (glHeap_base okAny) w2_6r p hp

end Go.Proofs.YtgiepejpgodjoaaGreatDoor.ruleNames
