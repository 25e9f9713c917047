/- StrataNames: pieces of the law body, each run from what is written to what is written. No condition. -/
import Derived.Test.YtaopfnhkfedemaaGreatDoorWt
namespace Go.Proofs.YtaopfnhkfedemaaGreatDoor.strataNames
open Go.Ax
set_option linter.unusedVariables false

set_option maxRecDepth 1000000 in
theorem run3 : pieceOk c3.g0 Tryz.f3.ntmps (execQ p3 ⟨c3, drawQ, appQ c3 drawQ 100000 (extT xs) 80, 100000, 3, Tryz.f3.ntmps, none⟩ (litS c3.g0 Tryz.f3.ntmps lit2)) lit3 = true := by kernel_rfl
theorem tri3 : TriX c3 Tryz.f3.ntmps p3 (litS c3.g0 Tryz.f3.ntmps lit2) .normal (litS c3.g0 Tryz.f3.ntmps lit3) :=
  piece (ctxG_ok names) kn3 mixed (extT_ok xsOk) (glHeap_base okAny) litS_gl run3

end Go.Proofs.YtaopfnhkfedemaaGreatDoor.strataNames
