/- StrataNames: pieces of the law body, each run from what is written to what is written. No condition. -/
import Derived.Test.YtaopfnhkfedemaaGreatDoorWt
namespace Go.Proofs.YtaopfnhkfedemaaGreatDoor.strataNames
open Go.Ax
set_option linter.unusedVariables false

set_option maxRecDepth 1000000 in
theorem run6 : pieceOk c3.g0 Tryz.f3.ntmps (execQ p6 ⟨c3, drawQ, appQ c3 drawQ 100000 (extT xs) 80, 100000, 3, Tryz.f3.ntmps, none⟩ (litS c3.g0 Tryz.f3.ntmps lit5)) lit6 = true := by kernel_rfl
theorem tri6 : TriX c3 Tryz.f3.ntmps p6 (litS c3.g0 Tryz.f3.ntmps lit5) .normal (litS c3.g0 Tryz.f3.ntmps lit6) :=
  piece (ctxG_ok names) kn3 mixed (extT_ok xsOk) (glHeap_base okAny) litS_gl run6
set_option maxRecDepth 1000000 in
theorem run7 : pieceOk c3.g0 Tryz.f3.ntmps (execQ p7 ⟨c3, drawQ, appQ c3 drawQ 100000 (extT xs) 80, 100000, 3, Tryz.f3.ntmps, none⟩ (litS c3.g0 Tryz.f3.ntmps lit6)) lit7 = true := by kernel_rfl
theorem tri7 : TriX c3 Tryz.f3.ntmps p7 (litS c3.g0 Tryz.f3.ntmps lit6) .normal (litS c3.g0 Tryz.f3.ntmps lit7) :=
  piece (ctxG_ok names) kn3 mixed (extT_ok xsOk) (glHeap_base okAny) litS_gl run7
set_option maxRecDepth 1000000 in
theorem run9 : pieceOk c3.g0 Tryz.f3.ntmps (execQ p9 ⟨c3, drawQ, appQ c3 drawQ 100000 (extT xs) 80, 100000, 3, Tryz.f3.ntmps, none⟩ (litS c3.g0 Tryz.f3.ntmps lit8)) lit9 = true := by kernel_rfl
theorem tri9 : TriX c3 Tryz.f3.ntmps p9 (litS c3.g0 Tryz.f3.ntmps lit8) .normal (litS c3.g0 Tryz.f3.ntmps lit9) :=
  piece (ctxG_ok names) kn3 mixed (extT_ok xsOk) (glHeap_base okAny) litS_gl run9
set_option maxRecDepth 1000000 in
theorem run10 : lastOk c3 Tryz.f3 (execQ q10 ⟨c3, drawQ, appQ c3 drawQ 100000 (extT xs) 80, 100000, 3, Tryz.f3.ntmps, none⟩ (litS c3.g0 Tryz.f3.ntmps lit9)) (.bool true) = true := by kernel_rfl
theorem end10 : EndX c3 Tryz.f3 q10 (litS c3.g0 Tryz.f3.ntmps lit9) (.bool true) :=
  last (ctxG_ok names) kn3 mixed (extT_ok xsOk) run10

end Go.Proofs.YtaopfnhkfedemaaGreatDoor.strataNames
