/- RuleNames: known calls of small functions, each run. No condition. -/
import Derived.Test.YtgiepejpgodjoaaGreatDoorKa
namespace Go.Proofs.YtgiepejpgodjoaaGreatDoor.ruleNames
open Go.Ax
set_option linter.unusedVariables false

def l54 : List (List AV × AV) :=
 [([.str [102]], .tup [.agg [.int .i64 (0), .int .i64 (0), .str []], .int .i64 (11)]),
  ([.str [43]], .tup [.agg [.int .i64 (0), .int .i64 (0), .str []], .int .i64 (11)]),
  ([.str [102, 105, 110, 100]], .tup [.agg [.int .i64 (0), .int .i64 (0), .str []], .int .i64 (11)]),
  ([.str [45, 62]], .tup [.agg [.int .i64 (0), .int .i64 (0), .str []], .int .i64 (11)]),
  ([.str [34, 110, 34]], .tup [.agg [.int .i64 (3), .int .i64 (0), .str [110]], .int .i64 (0)]),
  ([.str [48]], .tup [.agg [.int .i64 (1), .int .i64 (0), .str []], .int .i64 (0)]),
  ([.str [58, 97]], .tup [.agg [.int .i64 (7), .int .i64 (0), .str [97]], .int .i64 (0)]),
  ([.str [50]], .tup [.agg [.int .i64 (1), .int .i64 (2), .str []], .int .i64 (0)]),
  ([.str [61]], .tup [.agg [.int .i64 (0), .int .i64 (0), .str []], .int .i64 (11)]),
  ([.str [111, 114]], .tup [.agg [.int .i64 (0), .int .i64 (0), .str []], .int .i64 (11)]),
  ([.str [58, 110]], .tup [.agg [.int .i64 (7), .int .i64 (0), .str [110]], .int .i64 (0)]),
  ([.str [119, 105, 116, 104]], .tup [.agg [.int .i64 (0), .int .i64 (0), .str []], .int .i64 (11)]),
  ([.str [63, 121]], .tup [.agg [.int .i64 (0), .int .i64 (0), .str []], .int .i64 (11)]),
  ([.str [110, 111, 116]], .tup [.agg [.int .i64 (0), .int .i64 (0), .str []], .int .i64 (11)]),
  ([.str [99, 111, 117, 110, 116]], .tup [.agg [.int .i64 (0), .int .i64 (0), .str []], .int .i64 (11)]),
  ([.str [116, 114, 117, 101]], .tup [.agg [.int .i64 (2), .int .i64 (1), .str []], .int .i64 (0)]),
  ([.str [105, 110]], .tup [.agg [.int .i64 (0), .int .i64 (0), .str []], .int .i64 (11)]),
  ([.str [97, 98, 111, 118, 101]], .tup [.agg [.int .i64 (0), .int .i64 (0), .str []], .int .i64 (11)]),
  ([.str [114, 117, 108, 101]], .tup [.agg [.int .i64 (0), .int .i64 (0), .str []], .int .i64 (11)]),
  ([.str [60]], .tup [.agg [.int .i64 (0), .int .i64 (0), .str []], .int .i64 (11)]),
  ([.str [119, 104, 101, 114, 101]], .tup [.agg [.int .i64 (0), .int .i64 (0), .str []], .int .i64 (11)]),
  ([.str [63, 97]], .tup [.agg [.int .i64 (0), .int .i64 (0), .str []], .int .i64 (11)]),
  ([.str [63, 110]], .tup [.agg [.int .i64 (0), .int .i64 (0), .str []], .int .i64 (11)]),
  ([.str [120]], .tup [.agg [.int .i64 (0), .int .i64 (0), .str []], .int .i64 (11)]),
  ([.str [49]], .tup [.agg [.int .i64 (1), .int .i64 (1), .str []], .int .i64 (0)]),
  ([.str [58, 112, 97, 114, 116, 47, 111, 102]], .tup [.agg [.int .i64 (7), .int .i64 (0), .str [112, 97, 114, 116, 47, 111, 102]], .int .i64 (0)]),
  ([.str [97, 110, 100]], .tup [.agg [.int .i64 (0), .int .i64 (0), .str []], .int .i64 (11)]),
  ([.str [113, 117, 101, 114, 121]], .tup [.agg [.int .i64 (0), .int .i64 (0), .str []], .int .i64 (11)]),
  ([.str [51]], .tup [.agg [.int .i64 (1), .int .i64 (3), .str []], .int .i64 (0)]),
  ([.str [115, 117, 109]], .tup [.agg [.int .i64 (0), .int .i64 (0), .str []], .int .i64 (11)]),
  ([.str [58, 111, 102]], .tup [.agg [.int .i64 (7), .int .i64 (0), .str [111, 102]], .int .i64 (0)]),
  ([.str [95]], .tup [.agg [.int .i64 (0), .int .i64 (0), .str []], .int .i64 (11)]),
  ([.str [53]], .tup [.agg [.int .i64 (1), .int .i64 (5), .str []], .int .i64 (0)]),
  ([.str [64, 55]], .tup [.agg [.int .i64 (5), .int .i64 (7), .str []], .int .i64 (0)]),
  ([.str [63, 109]], .tup [.agg [.int .i64 (0), .int .i64 (0), .str []], .int .i64 (11)]),
  ([.str [63, 120]], .tup [.agg [.int .i64 (0), .int .i64 (0), .str []], .int .i64 (11)])]
set_option maxRecDepth 1000000 in
theorem r54 : allRun c1 100000 (extT xs) 80 54 l54 = true := by kernel_rfl
theorem k54 (p : List AV × AV) (hp : p ∈ l54) : clAll p.1 = true ∧ KnownOk (ctxG Tryz.prog (glHeap 8 gAny) .leaf) 54 p.1 p.2 :=
  allRun_ok (c := c1) (ctxG_ok names) kn1 mixed (extT_ok xsOk) (glHeap_base okAny) r54 p hp
def l22 : List (List AV × AV) :=
 [([.str [115, 117, 109]], .bool true),
  ([.str [105, 110]], .bool true),
  ([.str [63, 98]], .bool true),
  ([.str [60]], .bool true),
  ([.str [63, 120]], .bool true),
  ([.str [43]], .bool true),
  ([.str [97, 110, 100]], .bool true),
  ([.str [63, 65]], .bool false),
  ([.str [63, 121]], .bool true),
  ([.str [102, 105, 110, 100]], .bool true),
  ([.str [114, 117, 108, 101]], .bool true),
  ([.str [63, 110]], .bool true),
  ([.str [61]], .bool true),
  ([.str [120]], .bool true),
  ([.str [119, 105, 116, 104]], .bool true),
  ([.str [95]], .bool true),
  ([.str [45, 62]], .bool true),
  ([.str [63, 97]], .bool true),
  ([.str [102]], .bool true),
  ([.str [119, 104, 101, 114, 101]], .bool true),
  ([.str [113, 117, 101, 114, 121]], .bool true),
  ([.str [111, 114]], .bool true),
  ([.str [99, 111, 117, 110, 116]], .bool true),
  ([.str [63, 109]], .bool true),
  ([.str [97, 98, 111, 118, 101]], .bool true),
  ([.str [110, 111, 116]], .bool true)]
set_option maxRecDepth 1000000 in
theorem r22 : allRun c1 100000 (extT xs) 80 22 l22 = true := by kernel_rfl
theorem k22 (p : List AV × AV) (hp : p ∈ l22) : clAll p.1 = true ∧ KnownOk (ctxG Tryz.prog (glHeap 8 gAny) .leaf) 22 p.1 p.2 :=
  allRun_ok (c := c1) (ctxG_ok names) kn1 mixed (extT_ok xsOk) (glHeap_base okAny) r22 p hp
def l10 : List (List AV × AV) :=
 [([.str [120]], .bool false),
  ([.str [63, 110]], .bool true),
  ([.str [63, 65]], .bool false),
  ([.str [63, 98]], .bool true),
  ([.str [95]], .bool false),
  ([.str []], .bool false),
  ([.str [63]], .bool false),
  ([.str [63, 121]], .bool true),
  ([.str [63, 109]], .bool true),
  ([.str [63, 97]], .bool true),
  ([.str [63, 120]], .bool true)]
set_option maxRecDepth 1000000 in
theorem r10 : allRun c1 100000 (extT xs) 80 10 l10 = true := by kernel_rfl
theorem k10 (p : List AV × AV) (hp : p ∈ l10) : clAll p.1 = true ∧ KnownOk (ctxG Tryz.prog (glHeap 8 gAny) .leaf) 10 p.1 p.2 :=
  allRun_ok (c := c1) (ctxG_ok names) kn1 mixed (extT_ok xsOk) (glHeap_base okAny) r10 p hp
def l84 : List (List AV × AV) :=
 [([.int .u8 (111)], .bool false),
  ([.int .u8 (119)], .bool false),
  ([.int .u8 (51)], .bool false),
  ([.int .u8 (113)], .bool false),
  ([.int .u8 (99)], .bool false),
  ([.int .u8 (120)], .bool false),
  ([.int .u8 (40)], .bool false),
  ([.int .u8 (43)], .bool false),
  ([.int .u8 (49)], .bool false),
  ([.int .u8 (110)], .bool false),
  ([.int .u8 (63)], .bool false),
  ([.int .u8 (102)], .bool false),
  ([.int .u8 (64)], .bool false),
  ([.int .u8 (114)], .bool false),
  ([.int .u8 (45)], .bool false),
  ([.int .u8 (48)], .bool false),
  ([.int .u8 (41)], .bool false),
  ([.int .u8 (105)], .bool false),
  ([.int .u8 (97)], .bool false),
  ([.int .u8 (91)], .bool false),
  ([.int .u8 (58)], .bool false),
  ([.int .u8 (50)], .bool false),
  ([.int .u8 (32)], .bool true),
  ([.int .u8 (61)], .bool false),
  ([.int .u8 (53)], .bool false),
  ([.int .u8 (115)], .bool false),
  ([.int .u8 (95)], .bool false),
  ([.int .u8 (116)], .bool false),
  ([.int .u8 (93)], .bool false),
  ([.int .u8 (60)], .bool false),
  ([.int .u8 (34)], .bool false)]
set_option maxRecDepth 1000000 in
theorem r84 : allRun c1 100000 (extT xs) 80 84 l84 = true := by kernel_rfl
theorem k84 (p : List AV × AV) (hp : p ∈ l84) : clAll p.1 = true ∧ KnownOk (ctxG Tryz.prog (glHeap 8 gAny) .leaf) 84 p.1 p.2 :=
  allRun_ok (c := c1) (ctxG_ok names) kn1 mixed (extT_ok xsOk) (glHeap_base okAny) r84 p hp
def xs2 : List (FuncId × List (List AV × AV)) := [(53, idx), (54, l54), (22, l22), (10, l10), (84, l84)]
noncomputable def c2 : Ctx := ctxG Tryz.prog (glHeap 8 gAny) (knT xs2)
theorem kn2 : KnOk c2 := kn_table (glHeap_cells okAny) (fun q hq p hp => by
  simp only [xs2, List.mem_cons, List.not_mem_nil, or_false] at hq
  rcases hq with rfl | rfl | rfl | rfl | rfl
  · exact idxOk p hp
  · exact k54 p hp
  · exact k22 p hp
  · exact k10 p hp
  · exact k84 p hp)

end Go.Proofs.YtgiepejpgodjoaaGreatDoor.ruleNames
