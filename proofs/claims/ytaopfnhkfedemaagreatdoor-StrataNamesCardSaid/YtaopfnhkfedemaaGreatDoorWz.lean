/- StrataNames: the law, out of its pieces. No condition. -/
import Derived.Test.YtaopfnhkfedemaaGreatDoorP0
import Derived.Test.YtaopfnhkfedemaaGreatDoorP1
import Derived.Test.YtaopfnhkfedemaaGreatDoorP2
import Derived.Test.YtaopfnhkfedemaaGreatDoorP3
import Derived.Test.YtaopfnhkfedemaaGreatDoorP4
namespace Go.Proofs.YtaopfnhkfedemaaGreatDoor.strataNames
open Go.Ax
set_option linter.unusedVariables false

theorem end9 : EndX c3 Tryz.f3 q9 (litS c3.g0 Tryz.f3.ntmps lit8) (.bool true) := by
  rw [cut9]
  exact EndX.seq tri9 end10
theorem end8 : EndX c3 Tryz.f3 q8 (litS c3.g0 Tryz.f3.ntmps lit7) (.bool true) := by
  rw [cut8]
  exact EndX.seq tri8 end9
theorem end7 : EndX c3 Tryz.f3 q7 (litS c3.g0 Tryz.f3.ntmps lit6) (.bool true) := by
  rw [cut7]
  exact EndX.seq tri7 end8
theorem end6 : EndX c3 Tryz.f3 q6 (litS c3.g0 Tryz.f3.ntmps lit5) (.bool true) := by
  rw [cut6]
  exact EndX.seq tri6 end7
theorem end5 : EndX c3 Tryz.f3 q5 (litS c3.g0 Tryz.f3.ntmps lit4) (.bool true) := by
  rw [cut5]
  exact EndX.seq tri5 end6
theorem end4 : EndX c3 Tryz.f3 q4 (litS c3.g0 Tryz.f3.ntmps lit3) (.bool true) := by
  rw [cut4]
  exact EndX.seq tri4 end5
theorem end3 : EndX c3 Tryz.f3 q3 (litS c3.g0 Tryz.f3.ntmps lit2) (.bool true) := by
  rw [cut3]
  exact EndX.seq tri3 end4
theorem end2 : EndX c3 Tryz.f3 q2 (litS c3.g0 Tryz.f3.ntmps lit1) (.bool true) := by
  rw [cut2]
  exact EndX.seq tri2 end3
theorem end1 : EndX c3 Tryz.f3 q1 (litS c3.g0 Tryz.f3.ntmps lit0) (.bool true) := by
  rw [cut1]
  exact EndX.seq tri1 end2
theorem end0 : EndX c3 Tryz.f3 q0 s0 (.bool true) := by
  rw [cut0]
  exact EndX.seq tri0 end1
theorem law : KnownOk (ctxG Tryz.prog (glHeap 8 gAny) .leaf) 3 [] (.bool true) :=
  known_of_pieces (c := c3) (ctxG_ok names) (glHeap_base okAny) Tryz.func3 hbody (by kernel_rfl) end0

end Go.Proofs.YtaopfnhkfedemaaGreatDoor.strataNames
