/- DumpTexts, whatever the dump, within the bound: the law answers true, and what its row lists is what the program itself lays: the tied card. By walks (Du.., De.., Ds..) over the P-layer (Px..); strconv.FormatInt by the shelf's contract. No condition but the row's own. -/
import Derived.Test.YthaagimdjfkjpaaGreatDoorXLv
import Derived.Test.YthaagimdjfkjpaaGreatDoorXK4
import Derived.Test.YthaagimdjfkjpaaGreatDoorCards
import Derived.Test.YthaagimdjfkjpaaGreatDoorTie
import Derived.ProofKit
set_option linter.unusedVariables false
set_option linter.unusedSimpArgs false
section
namespace Go.Proofs.YthaagimdjfkjpaaGreatDoor.dumpTexts
theorem plain (f : FuncId) (fn : Func) (hf : Tryz.pinned.checked.prog.funcNamed "daybook/daybooklaw28.DumpTexts" = some f) (hfn : Tryz.pinned.checked.prog.funcs[f]? = some fn) :
  false = Tryz.pinned.checked.prog.looks [] ∧ ∀ (j : Nat) t, fn.params[j]? = some t → Tryz.pinned.checked.prog.wantsStandIn t = false := by
 obtain rfl : f = 3 := Option.some.inj ((show Tryz.prog.funcNamed "daybook/daybooklaw28.DumpTexts" = some 3 by kernel_rfl).symm.trans hf) |>.symm
 obtain rfl : fn = Tryz.f3 := (Option.some.inj (Tryz.func3.symm.trans hfn)).symm
 refine ⟨by kernel_rfl, fun j t ht => ?_⟩
 rw [Tryz.params3] at ht
 obtain rfl : t = 24 := by simpa using Array.mem_of_getElem? ht
 exact (show Tryz.prog.wantsStandIn 24 = false by kernel_rfl)
theorem card : Rows.DumpTextsUptoCardSaid :=
 Claim7.holds_tied_plain_at .later [] _ _ _ _ said (fun _ h => by cases h) (by kernel_rfl) (fun _ h => by cases h) dumpTextsUpto_row_tie rfl ⟨rfl, rfl⟩ (by kernel_rfl) rfl plain (by kernel_rfl)
end Go.Proofs.YthaagimdjfkjpaaGreatDoor.dumpTexts
end
