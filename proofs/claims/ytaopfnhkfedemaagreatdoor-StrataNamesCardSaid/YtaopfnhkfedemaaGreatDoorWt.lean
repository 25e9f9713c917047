/- StrataNames: the table of known calls, the law body in pieces and what stands between them. No condition. -/
import Derived.Test.YtaopfnhkfedemaaGreatDoorAxZg
import Derived.Test.YtaopfnhkfedemaaGreatDoorW0
import Derived.Test.YtaopfnhkfedemaaGreatDoorW1
import Derived.Test.YtaopfnhkfedemaaGreatDoorW2
namespace Go.Proofs.YtaopfnhkfedemaaGreatDoor.strataNames
open Go.Ax
set_option linter.unusedVariables false

def g10 : List (List AV × AV) := w0_0 ++ (w0_1 ++ (w0_2 ++ (w1_1 ++ (w1_2 ++ (w2_0 ++ (w2_1 ++ (w2_2)))))))
theorem gk10 : ∀ p, p ∈ g10 → (fun p : List AV × AV => clAll p.1 = true ∧ KnownOk (ctxG Tryz.prog (glHeap 8 gAny) .leaf) 10 p.1 p.2) p := (allApp w0_0k (allApp w0_1k (allApp w0_2k (allApp w1_1k (allApp w1_2k (allApp w2_0k (allApp w2_1k w2_2k)))))))
def g12 : List (List AV × AV) := w1_0
theorem gk12 : ∀ p, p ∈ g12 → (fun p : List AV × AV => clAll p.1 = true ∧ KnownOk (ctxG Tryz.prog (glHeap 8 gAny) .leaf) 12 p.1 p.2) p := w1_0k
def g6 : List (List AV × AV) := w2_3
theorem gk6 : ∀ p, p ∈ g6 → (fun p : List AV × AV => clAll p.1 = true ∧ KnownOk (ctxG Tryz.prog (glHeap 8 gAny) .leaf) 6 p.1 p.2) p := w2_3k
def xs3 : List (FuncId × List (List AV × AV)) := [(31, idx), (33, l33), (72, l72), (68, l68), (32, l32), (58, l58), (107, l107), (60, l60), (10, g10), (12, g12), (6, g6)]
noncomputable def c3 : Ctx := ctxG Tryz.prog (glHeap 8 gAny) (knT xs3)
theorem kn3 : KnOk c3 := kn_table (glHeap_cells okAny) (fun q hq p hp => by
  simp only [xs3, List.mem_cons, List.not_mem_nil, or_false] at hq
  rcases hq with rfl | rfl | rfl | rfl | rfl | rfl | rfl | rfl | rfl | rfl | rfl
  · exact idxOk p hp
  · exact k33 p hp
  · exact k72 p hp
  · exact k68 p hp
  · exact k32 p hp
  · exact k58 p hp
  · exact k107 p hp
  · exact k60 p hp
  · exact gk10 p hp
  · exact gk12 p hp
  · exact gk6 p hp)

/-! the body, cut -/
noncomputable def sl (x : Go.Code) : Go.Code := match x with | .seq a _ => a | x => x
noncomputable def sr (x : Go.Code) : Go.Code := match x with | .seq _ b => b | x => x
noncomputable def q0 : Go.Code := match Tryz.f3.body with | some b => b | none => .ret
theorem hbody : Tryz.f3.body = some q0 := by kernel_rfl
noncomputable def p0 : Go.Code := sl q0
noncomputable def q1 : Go.Code := sr q0
theorem cut0 : q0 = p0.seq q1 := by kernel_rfl
def lit0 : Go.Ax.Lit := ⟨[.bad, .bad, .bad, .bad, .bad, .bad, .bad, .bad, .bad, .bad, .bad, .bad, .bad, .bad, .bad, .bad, .bad, .bad, .bad, .bad, .bad, .bad, .bad, .bad, .bad, .bad, .bad, .bad, .bad, .bad, .bad, .bad, .bad, .bad, .bad, .bad, .bad, .bad, .bad, .bad, .bad, .bad, .bad, .bad, .bad, .bad, .bad, .bad, .bad, .bad, .bad, .bad, .bad, .bad, .bad, .bad, .bad, .bad, .bad, .bad, .bad, .bad, .bad, .bad, .bad, .bad, .bad, .bad, .bad, .bad, .bad, .bad, .bad, .bad, .bad, .bad, .bad, .bad, .bad, .bad, .bad, .bad, .bad, .bad, .bad, .bad, .bad, .bad, .bad, .bad, .bad, .bad, .bad, .bad, .bad, .bad, .bad, .bad, .bad, .bad, .bad, .bad, .bad, .bad, .bad, .bad, .bad, .bad, .bad, .bad, .bad, .bad, .bad, .bad, .bad, .bad, .bad, .bad, .bad, .bad, .bad, .bad, .bad, .bad, .bad, .bad, .bad, .bad, .bad, .bad, .bad, .bad, .bad, .bad, .bad, .bad, .bad, .bad, .bad, .bad, .bad, .bad, .bad, .bad, .bad, .bad, .bad, .bad, .bad, .bad, .bad, .bad, .bad, .bad, .bad, .bad, .bad, .bad], 8, []⟩
noncomputable def p1 : Go.Code := sl q1
noncomputable def q2 : Go.Code := sr q1
theorem cut1 : q1 = p1.seq q2 := by kernel_rfl
def lit1 : Go.Ax.Lit := ⟨[.bad, .sl 704 0 1 none 1, .int .i64 (0), .bad, .bad, .bad, .bad, .bad, .bad, .bad, .bad, .bad, .bad, .bad, .bad, .bad, .bad, .bad, .bad, .bad, .bad, .bad, .bad, .bad, .bad, .bad, .bad, .bad, .bad, .bad, .bad, .bad, .bad, .bad, .bad, .bad, .bad, .bad, .bad, .bad, .bad, .bad, .bad, .bad, .bad, .bad, .bad, .bad, .bad, .bad, .bad, .bad, .bad, .bad, .bad, .bad, .bad, .bad, .bad, .bad, .bad, .bad, .bad, .bad, .bad, .bad, .bad, .bad, .bad, .bad, .bad, .bad, .bad, .bad, .bad, .bad, .bad, .bad, .bad, .bad, .bad, .bad, .bad, .bad, .bad, .bad, .bad, .bad, .bad, .bad, .bad, .bad, .bad, .bad, .bad, .bad, .bad, .bad, .bad, .bad, .bad, .bad, .bad, .bad, .bad, .bad, .bad, .bad, .bad, .bad, .bad, .bad, .bad, .bad, .bad, .bad, .bad, .bad, .bad, .bad, .bad, .bad, .bad, .bad, .bad, .bad, .bad, .bad, .bad, .bad, .bad, .bad, .bad, .bad, .bad, .bad, .bad, .bad, .bad, .bad, .bad, .bad, .bad, .bad, .bad, .bad, .bad, .bad, .bad, .bad, .bad, .bad, .bad, .bad, .bad, .bad, .bad, .bad], 707, [(704, 9, [.str [63, 120]])]⟩
noncomputable def p2 : Go.Code := sl q2
noncomputable def q3 : Go.Code := sr q2
theorem cut2 : q2 = p2.seq q3 := by kernel_rfl
def lit2 : Go.Ax.Lit := ⟨[.bad, .sl 704 0 1 none 1, .int .i64 (0), .sl 1086 0 1 none 1, .int .i64 (130), .bad, .bad, .bad, .bad, .bad, .bad, .bad, .bad, .bad, .bad, .bad, .bad, .bad, .bad, .bad, .bad, .bad, .bad, .bad, .bad, .bad, .bad, .bad, .bad, .bad, .bad, .bad, .bad, .bad, .bad, .bad, .bad, .bad, .bad, .bad, .bad, .bad, .bad, .bad, .bad, .bad, .bad, .bad, .bad, .bad, .bad, .bad, .bad, .bad, .bad, .bad, .bad, .bad, .bad, .bad, .bad, .bad, .bad, .bad, .bad, .bad, .bad, .bad, .bad, .bad, .bad, .bad, .bad, .bad, .bad, .bad, .bad, .bad, .bad, .bad, .bad, .bad, .bad, .bad, .bad, .bad, .bad, .bad, .bad, .bad, .bad, .bad, .bad, .bad, .bad, .bad, .bad, .bad, .bad, .bad, .bad, .bad, .bad, .bad, .bad, .bad, .bad, .bad, .bad, .bad, .bad, .bad, .bad, .bad, .bad, .bad, .bad, .bad, .bad, .bad, .bad, .bad, .bad, .bad, .bad, .bad, .bad, .bad, .bad, .bad, .bad, .bad, .bad, .bad, .bad, .bad, .bad, .bad, .bad, .bad, .bad, .bad, .bad, .bad, .bad, .bad, .bad, .bad, .bad, .bad, .bad, .bad, .bad, .bad, .bad, .bad, .bad, .bad], 1108, [(704, 9, [.str [63, 120]]), (1086, 9, [.str [63, 121]])]⟩
noncomputable def p3 : Go.Code := sl q3
noncomputable def q4 : Go.Code := sr q3
theorem cut3 : q3 = p3.seq q4 := by kernel_rfl
def lit3 : Go.Ax.Lit := ⟨[.bad, .bad, .bad, .bad, .bad, .bool true, .bad, .bad, .bad, .bad, .bad, .bad, .bad, .bad, .bad, .bad, .bad, .bad, .bad, .bad, .bad, .bad, .bad, .bad, .bad, .bad, .bad, .bad, .bad, .bad, .bad, .bad, .bad, .bad, .bad, .bad, .bad, .bad, .bad, .bad, .bad, .bad, .bad, .bad, .bad, .bad, .bad, .bad, .bad, .bad, .bad, .bad, .bad, .bad, .bad, .bad, .bad, .bad, .bad, .bad, .bad, .bad, .bad, .bad, .bad, .bad, .bad, .bad, .bad, .bad, .bad, .bad, .bad, .bad, .bad, .bad, .bad, .bad, .bad, .bad, .bad, .bad, .bad, .bad, .bad, .bad, .bad, .bad, .bad, .bad, .bad, .bad, .bad, .bad, .bad, .bad, .bad, .bad, .bad, .bad, .bad, .bad, .bad, .bad, .bad, .bad, .bad, .bad, .bad, .bad, .bad, .bad, .bad, .bad, .bad, .bad, .bad, .bad, .bad, .bad, .bad, .bad, .bad, .bad, .bad, .bad, .bad, .bad, .bad, .bad, .bad, .bad, .bad, .bad, .bad, .bad, .bad, .bad, .bad, .bad, .bad, .bad, .bad, .bad, .bad, .bad, .bad, .bad, .bad, .bad, .bad, .bad, .bad, .bad, .bad, .bad, .bad, .bad], 3207, []⟩
noncomputable def p4 : Go.Code := sl q4
noncomputable def q5 : Go.Code := sr q4
theorem cut4 : q4 = p4.seq q5 := by kernel_rfl
def lit4 : Go.Ax.Lit := ⟨[.bad, .bad, .bad, .bad, .bad, .bool true, .ptr 3954 0, .bad, .bad, .int .i64 (0), .bad, .bad, .bad, .bad, .bad, .bad, .bad, .bad, .bad, .bad, .bad, .bad, .bad, .bad, .bad, .bad, .bad, .bad, .bad, .bad, .bad, .bad, .bad, .bad, .bad, .bad, .bad, .bad, .bad, .bad, .bad, .bad, .bad, .bad, .bad, .bad, .bad, .bad, .bad, .bad, .bad, .bad, .bad, .bad, .bad, .bad, .bad, .bad, .bad, .bad, .bad, .bad, .bad, .bad, .bad, .bad, .bad, .bad, .bad, .bad, .bad, .bad, .bad, .bad, .bad, .bad, .bad, .bad, .bad, .bad, .bad, .bad, .bad, .bad, .bad, .bad, .bad, .bad, .bad, .bad, .bad, .bad, .bad, .bad, .bad, .bad, .bad, .bad, .bad, .bad, .bad, .bad, .bad, .bad, .bad, .bad, .bad, .bad, .bad, .bad, .bad, .bad, .bad, .bad, .bad, .bad, .bad, .bad, .bad, .bad, .bad, .bad, .bad, .bad, .bad, .bad, .bad, .bad, .bad, .bad, .bad, .bad, .bad, .bad, .bad, .bad, .bad, .bad, .bad, .bad, .bad, .bad, .bad, .bad, .bad, .bad, .bad, .bad, .bad, .bad, .bad, .bad, .bad, .bad, .bad, .bad, .bad, .bad], 3955, [(3954, 33, [.sl 3901 0 4 none 3, .sl 3912 0 1 none 2, .nilsl, .nilsl, .sl 3927 0 1 none 5]), (3901, 45, [.str [102], .sl 3675 0 1 none 1, .sl 3703 0 2 none 5, .str [103], .sl 3755 0 1 none 1, .sl 3765 0 1 none 5, .str [104], .sl 3797 0 1 none 1, .sl 3812 0 1 none 5, .str [103], .sl 3854 0 1 none 1, .sl 3869 0 1 none 5]), (3912, 117, [.int .i64 (0), .str [63, 120]]), (3927, 79, [.int .i64 (4), .str [102], .sl 3924 0 1 none 4, .str [], .nilsl]), (3675, 9, [.str [63, 120]]), (3703, 79, [.int .i64 (4), .str [103], .sl 3682 0 1 none 4, .str [], .nilsl, .int .i64 (5), .str [], .nilsl, .str [], .sl 3700 0 1 none 5]), (3755, 9, [.str [63, 120]]), (3765, 79, [.int .i64 (4), .str [102], .sl 3762 0 1 none 4, .str [], .nilsl]), (3797, 9, [.str [63, 120]]), (3812, 79, [.int .i64 (1), .str [], .sl 3809 0 3 none 4, .str [], .nilsl]), (3854, 9, [.str [63, 120]]), (3869, 79, [.int .i64 (1), .str [], .sl 3866 0 3 none 4, .str [], .nilsl]), (3924, 173, [.str [63, 120], .int .i64 (0), .int .i64 (0), .str []]), (3682, 173, [.str [63, 120], .int .i64 (0), .int .i64 (0), .str []]), (3700, 79, [.int .i64 (4), .str [104], .sl 3697 0 1 none 4, .str [], .nilsl]), (3762, 173, [.str [63, 120], .int .i64 (0), .int .i64 (0), .str []]), (3809, 173, [.str [63, 120], .int .i64 (0), .int .i64 (0), .str [], .str [], .int .i64 (7), .int .i64 (0), .str [97], .str [], .int .i64 (1), .int .i64 (1), .str []]), (3866, 173, [.str [63, 120], .int .i64 (0), .int .i64 (0), .str [], .str [], .int .i64 (7), .int .i64 (0), .str [98], .str [95], .int .i64 (0), .int .i64 (0), .str []]), (3697, 173, [.str [63, 120], .int .i64 (0), .int .i64 (0), .str []])]⟩
noncomputable def p5 : Go.Code := sl q5
noncomputable def q6 : Go.Code := sr q5
theorem cut5 : q5 = p5.seq q6 := by kernel_rfl
def lit5 : Go.Ax.Lit := ⟨[.bad, .bad, .bad, .bad, .bad, .bool true, .bad, .bad, .bad, .int .i64 (0), .sl 5459 0 3 none 2, .int .i64 (0), .bad, .bad, .bad, .bad, .bad, .bad, .bad, .bad, .bad, .bad, .bad, .bad, .bad, .bad, .bad, .bad, .bad, .bad, .bad, .bad, .bad, .bad, .bad, .bad, .bad, .bad, .bad, .bad, .bad, .bad, .bad, .bad, .bad, .bad, .bad, .bad, .bad, .bad, .bad, .bad, .bad, .bad, .bad, .bad, .bad, .bad, .bad, .bad, .bad, .bad, .bad, .bad, .bad, .bad, .bad, .bad, .bad, .bad, .bad, .bad, .bad, .bad, .bad, .bad, .bad, .bad, .bad, .bad, .bad, .bad, .bad, .bad, .bad, .bad, .bad, .bad, .bad, .bad, .bad, .bad, .bad, .bad, .bad, .bad, .bad, .bad, .bad, .bad, .bad, .bad, .bad, .bad, .bad, .bad, .bad, .bad, .bad, .bad, .bad, .bad, .bad, .bad, .bad, .bad, .bad, .bad, .bad, .bad, .bad, .bad, .bad, .bad, .bad, .bad, .bad, .bad, .bad, .bad, .bad, .bad, .bad, .bad, .bad, .bad, .bad, .bad, .bad, .bad, .bad, .bad, .bad, .bad, .bad, .bad, .bad, .bad, .bad, .bad, .bad, .bad, .bad, .bad, .bad, .bad, .bad, .bad], 5460, [(5459, 40, [.str [102], .int .i64 (1), .str [103], .int .i64 (1), .str [104], .int .i64 (0)])]⟩
noncomputable def p6 : Go.Code := sl q6
noncomputable def q7 : Go.Code := sr q6
theorem cut6 : q6 = p6.seq q7 := by kernel_rfl
def lit6 : Go.Ax.Lit := ⟨[.bad, .bad, .bad, .bad, .bad, .bool true, .bad, .bad, .bad, .bad, .bad, .bad, .bool true, .bad, .bad, .bad, .bad, .bad, .bad, .bad, .bad, .bad, .bad, .bad, .bad, .bad, .bad, .bad, .bad, .bad, .bad, .bad, .bad, .bad, .bad, .bad, .bad, .bad, .bad, .bad, .bad, .bad, .bad, .bad, .bad, .bad, .bad, .bad, .bad, .bad, .bad, .bad, .bad, .bad, .bad, .bad, .bad, .bad, .bad, .bad, .bad, .bad, .bad, .bad, .bad, .bad, .bad, .bad, .bad, .bad, .bad, .bad, .bad, .bad, .bad, .bad, .bad, .bad, .bad, .bad, .bad, .bad, .bad, .bad, .bad, .bad, .bad, .bad, .bad, .bad, .bad, .bad, .bad, .bad, .bad, .bad, .bad, .bad, .bad, .bad, .bad, .bad, .bad, .bad, .bad, .bad, .bad, .bad, .bad, .bad, .bad, .bad, .bad, .bad, .bad, .bad, .bad, .bad, .bad, .bad, .bad, .bad, .bad, .bad, .bad, .bad, .bad, .bad, .bad, .bad, .bad, .bad, .bad, .bad, .bad, .bad, .bad, .bad, .bad, .bad, .bad, .bad, .bad, .bad, .bad, .bad, .bad, .bad, .bad, .bad, .bad, .bad, .bad, .bad, .bad, .bad, .bad, .bad], 5460, []⟩
noncomputable def p7 : Go.Code := sl q7
noncomputable def q8 : Go.Code := sr q7
theorem cut7 : q7 = p7.seq q8 := by kernel_rfl
def lit7 : Go.Ax.Lit := ⟨[.bad, .bad, .bad, .bad, .bad, .bool true, .bad, .bad, .bad, .bad, .bad, .bad, .bool true, .bool true, .bad, .bad, .bad, .bad, .bad, .bad, .bad, .bad, .bad, .bad, .bad, .bad, .bad, .bad, .bad, .bad, .bad, .bad, .bad, .bad, .bad, .bad, .bad, .bad, .bad, .bad, .bad, .bad, .bad, .bad, .bad, .bad, .bad, .bad, .bad, .bad, .bad, .bad, .bad, .bad, .bad, .bad, .bad, .bad, .bad, .bad, .bad, .bad, .bad, .bad, .bad, .bad, .bad, .bad, .bad, .bad, .bad, .bad, .bad, .bad, .bad, .bad, .bad, .bad, .bad, .bad, .bad, .bad, .bad, .bad, .bad, .bad, .bad, .bad, .bad, .bad, .bad, .bad, .bad, .bad, .bad, .bad, .bad, .bad, .bad, .bad, .bad, .bad, .bad, .bad, .bad, .bad, .bad, .bad, .bad, .bad, .bad, .bad, .bad, .bad, .bad, .bad, .bad, .bad, .bad, .bad, .bad, .bad, .bad, .bad, .bad, .bad, .bad, .bad, .bad, .bad, .bad, .bad, .bad, .bad, .bad, .bad, .bad, .bad, .bad, .bad, .bad, .bad, .bad, .bad, .bad, .bad, .bad, .bad, .bad, .bad, .bad, .bad, .bad, .bad, .bad, .bad, .bad, .bad], 5460, []⟩
noncomputable def p8 : Go.Code := sl q8
noncomputable def q9 : Go.Code := sr q8
theorem cut8 : q8 = p8.seq q9 := by kernel_rfl
def lit8 : Go.Ax.Lit := ⟨[.bad, .bad, .bad, .bad, .bad, .bool true, .bad, .bad, .bad, .bad, .bad, .bad, .bool true, .bool true, .sl 5854 0 2 none 1, .sl 5856 0 2 none 1, .bad, .bad, .bad, .bad, .bad, .bad, .bad, .bad, .bad, .bad, .bad, .bad, .bad, .bad, .bad, .bad, .bad, .bad, .bad, .bad, .bad, .bad, .bad, .bad, .bad, .bad, .bad, .bad, .bad, .bad, .bad, .bad, .bad, .bad, .bad, .bad, .bad, .bad, .bad, .bad, .bad, .bad, .bad, .bad, .bad, .bad, .bad, .bad, .bad, .bad, .bad, .bad, .bad, .bad, .bad, .bad, .bad, .bad, .bad, .bad, .bad, .bad, .bad, .bad, .bad, .bad, .bad, .bad, .bad, .bad, .bad, .bad, .bad, .bad, .bad, .bad, .bad, .bad, .bad, .bad, .bad, .bad, .bad, .bad, .bad, .bad, .bad, .bad, .bad, .bad, .bad, .bad, .bad, .bad, .bad, .bad, .bad, .bad, .bad, .bad, .bad, .bad, .bad, .bad, .bad, .bad, .bad, .bad, .bad, .bad, .bad, .bad, .bad, .bad, .bad, .bad, .bad, .bad, .bad, .bad, .bad, .bad, .bad, .bad, .bad, .bad, .bad, .bad, .bad, .bad, .bad, .bad, .bad, .bad, .bad, .bad, .bad, .bad, .bad, .bad, .bad, .bad], 5857, [(5854, 9, [.str [102], .str [103], .str []]), (5856, 9, [.str [102], .str [103]])]⟩
noncomputable def p9 : Go.Code := sl q9
noncomputable def q10 : Go.Code := sr q9
theorem cut9 : q9 = p9.seq q10 := by kernel_rfl
def lit9 : Go.Ax.Lit := ⟨[.bool true, .bad, .bad, .bad, .bad, .bad, .bad, .bad, .bad, .bad, .bad, .bad, .bad, .bad, .bad, .bad, .bad, .bad, .bad, .bad, .bad, .bad, .bad, .bad, .bad, .bad, .bad, .bad, .bad, .bad, .bad, .bad, .bad, .bad, .bad, .bad, .bad, .bad, .bad, .bad, .bad, .bad, .bad, .bad, .bad, .bad, .bad, .bad, .bad, .bad, .bad, .bad, .bad, .bad, .bad, .bad, .bad, .bad, .bad, .bad, .bad, .bad, .bad, .bad, .bad, .bad, .bad, .bad, .bad, .bad, .bad, .bad, .bad, .bad, .bad, .bad, .bad, .bad, .bad, .bad, .bad, .bad, .bad, .bad, .bad, .bad, .bad, .bad, .bad, .bad, .bad, .bad, .bad, .bad, .bad, .bad, .bad, .bad, .bad, .bad, .bad, .bad, .bad, .bad, .bad, .bad, .bad, .bad, .bad, .bad, .bad, .bad, .bad, .bad, .bad, .bad, .bad, .bad, .bad, .bad, .bad, .bad, .bad, .bad, .bad, .bad, .bad, .bad, .bad, .bad, .bad, .bad, .bad, .bad, .bad, .bad, .bad, .bad, .bad, .bad, .bad, .bad, .bad, .bad, .bad, .bad, .bad, .bad, .bad, .bad, .bad, .bad, .bad, .bad, .bad, .bad, .bad, .bad], 5863, []⟩
noncomputable def s0 : St := ⟨T.put und [] (env0 und Tryz.f3.ntmps) 0, c3.g0, []⟩

end Go.Proofs.YtaopfnhkfedemaaGreatDoor.strataNames
