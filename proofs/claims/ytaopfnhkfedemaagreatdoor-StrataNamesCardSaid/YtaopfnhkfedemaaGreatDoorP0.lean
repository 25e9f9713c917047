/- StrataNames: pieces of the law body, each run from what is written to what is written. No condition. -/
import Derived.Test.YtaopfnhkfedemaaGreatDoorWt
namespace Go.Proofs.YtaopfnhkfedemaaGreatDoor.strataNames
open Go.Ax
set_option linter.unusedVariables false

set_option maxRecDepth 1000000 in
theorem run0 : pieceOk c3.g0 Tryz.f3.ntmps (execQ p0 ⟨c3, drawQ, appQ c3 drawQ 100000 (extT xs) 80, 100000, 3, Tryz.f3.ntmps, none⟩ s0) lit0 = true := by kernel_rfl
theorem tri0 : TriX c3 Tryz.f3.ntmps p0 s0 .normal (litS c3.g0 Tryz.f3.ntmps lit0) :=
  piece (ctxG_ok names) kn3 mixed (extT_ok xsOk) (glHeap_base okAny) (fun _ _ e => e) run0
set_option maxRecDepth 1000000 in
theorem run1 : pieceOk c3.g0 Tryz.f3.ntmps (execQ p1 ⟨c3, drawQ, appQ c3 drawQ 100000 (extT xs) 80, 100000, 3, Tryz.f3.ntmps, none⟩ (litS c3.g0 Tryz.f3.ntmps lit0)) lit1 = true := by kernel_rfl
theorem tri1 : TriX c3 Tryz.f3.ntmps p1 (litS c3.g0 Tryz.f3.ntmps lit0) .normal (litS c3.g0 Tryz.f3.ntmps lit1) :=
  piece (ctxG_ok names) kn3 mixed (extT_ok xsOk) (glHeap_base okAny) litS_gl run1
set_option maxRecDepth 1000000 in
theorem run2 : pieceOk c3.g0 Tryz.f3.ntmps (execQ p2 ⟨c3, drawQ, appQ c3 drawQ 100000 (extT xs) 80, 100000, 3, Tryz.f3.ntmps, none⟩ (litS c3.g0 Tryz.f3.ntmps lit1)) lit2 = true := by kernel_rfl
theorem tri2 : TriX c3 Tryz.f3.ntmps p2 (litS c3.g0 Tryz.f3.ntmps lit1) .normal (litS c3.g0 Tryz.f3.ntmps lit2) :=
  piece (ctxG_ok names) kn3 mixed (extT_ok xsOk) (glHeap_base okAny) litS_gl run2

end Go.Proofs.YtaopfnhkfedemaaGreatDoor.strataNames
