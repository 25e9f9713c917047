/- StrataNames: the closed law answers true, and what its row lists is what the program itself lays: the tied card. No condition but the row's own. -/
import Derived.Test.YtaopfnhkfedemaaGreatDoorFin
import Derived.Test.YtaopfnhkfedemaaGreatDoorCards
import Derived.Test.YtaopfnhkfedemaaGreatDoorTie
import Derived.ProofKit
namespace Go.Proofs.YtaopfnhkfedemaaGreatDoor.strataNames
/-- No parameter wants a stand-in; the program's own looks are off: what the card asks. -/
theorem plain (f : FuncId) (fn : Func) (hf : Tryz.pinned.checked.prog.funcNamed "daybook/daybooklaw13.StrataNames" = some f) (hfn : Tryz.pinned.checked.prog.funcs[f]? = some fn) :
    true = Tryz.pinned.checked.prog.looks [] ∧ ∀ (j : Nat) t, fn.params[j]? = some t → Tryz.pinned.checked.prog.wantsStandIn t = false := by
  obtain rfl : f = 3 := Option.some.inj ((show Tryz.prog.funcNamed "daybook/daybooklaw13.StrataNames" = some 3 by kernel_rfl).symm.trans hf) |>.symm
  obtain rfl : fn = Tryz.f3 := (Option.some.inj (Tryz.func3.symm.trans hfn)).symm
  refine ⟨by kernel_rfl, fun j t ht => ?_⟩
  rw [Tryz.params3] at ht
  simp at ht

/-- THE CARD. -/
theorem card : Rows.StrataNamesCardSaid :=
  Claim7.holds_tied_plain_at .later [] _ _ _ _ proved (fun _ h => by cases h) (by kernel_rfl) (fun _ h => by cases h) strataNames_row_tie rfl ⟨rfl, rfl⟩ (by kernel_rfl) rfl plain (by kernel_rfl)
end Go.Proofs.YtaopfnhkfedemaaGreatDoor.strataNames
