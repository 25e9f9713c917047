/- RuleVars, whatever the clauses, within the bound: the law answers true, and what its row lists is what the program itself lays: the tied card. By walks (Fv..) over the P-layer (Px..); the chapter's first example is run. No condition but the row's own. -/
import Derived.Test.YthhgglnhjllboaaGreatDoorK5
import Derived.Test.YthhgglnhjllboaaGreatDoorCards
import Derived.Test.YthhgglnhjllboaaGreatDoorTie
import Derived.ProofKit
/- FvCard -/
section
namespace Go.Proofs.YthhgglnhjllboaaGreatDoor.ruleVars
/-- No parameter wants a stand-in; the program's own looks are off: what the card asks. -/
theorem plain (f : FuncId) (fn : Func) (hf : Tryz.pinned.checked.prog.funcNamed "daybook/daybooklaw12.RuleVars" = some f) (hfn : Tryz.pinned.checked.prog.funcs[f]? = some fn) :
    true = Tryz.pinned.checked.prog.looks [] ∧ ∀ (j : Nat) t, fn.params[j]? = some t → Tryz.pinned.checked.prog.wantsStandIn t = false := by
  obtain rfl : f = 3 := Option.some.inj ((show Tryz.prog.funcNamed "daybook/daybooklaw12.RuleVars" = some 3 by kernel_rfl).symm.trans hf) |>.symm
  obtain rfl : fn = Tryz.f3 := (Option.some.inj (Tryz.func3.symm.trans hfn)).symm
  refine ⟨by kernel_rfl, fun j t ht => ?_⟩
  rw [Tryz.params3] at ht
  obtain rfl : t = 22 := by simpa using Array.mem_of_getElem? ht
  exact (show Tryz.prog.wantsStandIn 22 = false by kernel_rfl)
/-- THE CARD. -/
theorem card : Rows.RuleVarsUptoCardSaid :=
  Claim7.holds_tied_plain_at .later [] _ _ _ _ said (fun _ h => by cases h) (by kernel_rfl) (fun _ h => by cases h) ruleVarsUpto_row_tie rfl ⟨rfl, rfl⟩ (by kernel_rfl) rfl plain (by kernel_rfl)
end Go.Proofs.YthhgglnhjllboaaGreatDoor.ruleVars
end
