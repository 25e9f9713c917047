/- StrataNames: pieces of the law body, each run from what is written to what is written. No condition. -/
import Derived.Test.YtaopfnhkfedemaaGreatDoorWt
namespace Go.Proofs.YtaopfnhkfedemaaGreatDoor.strataNames
open Go.Ax
set_option linter.unusedVariables false

set_option maxRecDepth 1000000 in
theorem run4 : pieceOk c3.g0 Tryz.f3.ntmps (execQ p4 ⟨c3, drawQ, appQ c3 drawQ 100000 (extT xs) 80, 100000, 3, Tryz.f3.ntmps, none⟩ (litS c3.g0 Tryz.f3.ntmps lit3)) lit4 = true := by kernel_rfl
theorem tri4 : TriX c3 Tryz.f3.ntmps p4 (litS c3.g0 Tryz.f3.ntmps lit3) .normal (litS c3.g0 Tryz.f3.ntmps lit4) :=
  piece (ctxG_ok names) kn3 mixed (extT_ok xsOk) (glHeap_base okAny) litS_gl run4
set_option maxRecDepth 1000000 in
theorem run8 : pieceOk c3.g0 Tryz.f3.ntmps (execQ p8 ⟨c3, drawQ, appQ c3 drawQ 100000 (extT xs) 80, 100000, 3, Tryz.f3.ntmps, none⟩ (litS c3.g0 Tryz.f3.ntmps lit7)) lit8 = true := by kernel_rfl
theorem tri8 : TriX c3 Tryz.f3.ntmps p8 (litS c3.g0 Tryz.f3.ntmps lit7) .normal (litS c3.g0 Tryz.f3.ntmps lit8) :=
  piece (ctxG_ok names) kn3 mixed (extT_ok xsOk) (glHeap_base okAny) litS_gl run8

end Go.Proofs.YtaopfnhkfedemaaGreatDoor.strataNames
