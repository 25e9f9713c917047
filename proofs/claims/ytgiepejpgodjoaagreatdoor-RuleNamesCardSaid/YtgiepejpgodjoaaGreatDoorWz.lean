/- RuleNames: the law, out of its known calls. No condition. -/
import Derived.Test.YtgiepejpgodjoaaGreatDoorW0
import Derived.Test.YtgiepejpgodjoaaGreatDoorW1
import Derived.Test.YtgiepejpgodjoaaGreatDoorW2
import Derived.Test.YtgiepejpgodjoaaGreatDoorW3
namespace Go.Proofs.YtgiepejpgodjoaaGreatDoor.ruleNames
open Go.Ax
set_option linter.unusedVariables false

def g7 : List (List AV × AV) := w0_0
theorem gk7 : ∀ p, p ∈ g7 → (fun p : List AV × AV => clAll p.1 = true ∧ KnownOk (ctxG Tryz.prog (glHeap 8 gAny) .leaf) 7 p.1 p.2) p := w0_0k
def g4 : List (List AV × AV) := w0_1 ++ (w0_2 ++ (w0_3 ++ (w0_4 ++ (w0_5 ++ (w1_0 ++ (w1_1 ++ (w1_2 ++ (w1_3 ++ (w1_4 ++ (w1_5 ++ (w1_6 ++ (w2_0 ++ (w2_1 ++ (w2_2 ++ (w2_3 ++ (w2_4 ++ (w2_5 ++ (w2_6 ++ (w3_0 ++ (w3_1 ++ (w3_2 ++ (w3_3 ++ (w3_4 ++ (w3_5 ++ (w3_6 ++ (w3_7 ++ (w3_8)))))))))))))))))))))))))))
theorem gk4 : ∀ p, p ∈ g4 → (fun p : List AV × AV => clAll p.1 = true ∧ KnownOk (ctxG Tryz.prog (glHeap 8 gAny) .leaf) 4 p.1 p.2) p := (allApp w0_1k (allApp w0_2k (allApp w0_3k (allApp w0_4k (allApp w0_5k (allApp w1_0k (allApp w1_1k (allApp w1_2k (allApp w1_3k (allApp w1_4k (allApp w1_5k (allApp w1_6k (allApp w2_0k (allApp w2_1k (allApp w2_2k (allApp w2_3k (allApp w2_4k (allApp w2_5k (allApp w2_6k (allApp w3_0k (allApp w3_1k (allApp w3_2k (allApp w3_3k (allApp w3_4k (allApp w3_5k (allApp w3_6k (allApp w3_7k w3_8k)))))))))))))))))))))))))))
def xs3 : List (FuncId × List (List AV × AV)) := [(53, idx), (54, l54), (22, l22), (10, l10), (84, l84), (7, g7), (4, g4)]
noncomputable def c3 : Ctx := ctxG Tryz.prog (glHeap 8 gAny) (knT xs3)
theorem kn3 : KnOk c3 := kn_table (glHeap_cells okAny) (fun q hq p hp => by
  simp only [xs3, List.mem_cons, List.not_mem_nil, or_false] at hq
  rcases hq with rfl | rfl | rfl | rfl | rfl | rfl | rfl
  · exact idxOk p hp
  · exact k54 p hp
  · exact k22 p hp
  · exact k10 p hp
  · exact k84 p hp
  · exact gk7 p hp
  · exact gk4 p hp)
set_option maxRecDepth 1000000 in
theorem ran : allRun c3 100000 (extT xs) 80 3 [([], .bool true)] = true := by kernel_rfl
theorem law : KnownOk (ctxG Tryz.prog (glHeap 8 gAny) .leaf) 3 [] (.bool true) :=
  (allRun_ok (c := c3) (ctxG_ok names) kn3 mixed (extT_ok xsOk) (glHeap_base okAny) ran ([], .bool true) List.mem_cons_self).2

end Go.Proofs.YtgiepejpgodjoaaGreatDoor.ruleNames
