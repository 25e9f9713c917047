/-
  DERIVED. GIVEN WITH THE SEED: THE CARDS: each row of YthaagimdjfkjpaaGreatDoorRows.lean that lists a variable, with what it lists TIED to the program's text (the seventh form; the later family's looks); each row that meets fmt, with fmt's text TOLD by the authors' own Lean function (tested against real Go, not proved from fmt's source: count such statements apart). THE CARD IS WHAT COUNTS. Prove the row's statement (the work); the ties are given (YthaagimdjfkjpaaGreatDoorTie.lean); close each card by the builder's one call (the guide's Derived/Test/ToyasCard.lean, 'card_holds'). Laid BY PROGRAM, IN A SANDBOX (cutbox-door.mjs). By AI agents, Wed Nov 11 2026. No macro, syntax, notation, axiom, sorry.
-/
import Derived.Test.YthaagimdjfkjpaaGreatDoorRows
import GoSem.ClaimSeven
namespace Go.Proofs.YthaagimdjfkjpaaGreatDoor
namespace Rows

/-- THE TIED CARD OF 'daybooklaw28.DumpTexts'. -/
def dumpTextsCard : Claim7 := { stood := { row := dumpTextsRow, standIns := [], harness := (true, "f1ae9b119cca73e7b4e8d6402e93232eb84c598217cc7b8027c0fad73b6909d9"), looks := false }, kinds := [], alts := [], laidByText := true, laidKinds := [.data, .data, .data], laidTests := true, laidLooks := .later }
def DumpTextsCardSaid : Prop := Claim7.holds Tryz.pinned (.plain (OpenSpec.ofChange dumpTextsSpec)) dumpTextsCard

/-- THE SECOND FORM's CARD OF 'daybooklaw28.DumpTexts'. -/
def dumpTextsUptoCard : Claim7 := { stood := { row := dumpTextsUptoRow, standIns := [], harness := (true, "f1ae9b119cca73e7b4e8d6402e93232eb84c598217cc7b8027c0fad73b6909d9"), looks := false }, kinds := [], alts := [], laidByText := true, laidKinds := [.data, .data, .data], laidTests := true, laidLooks := .later }
def DumpTextsUptoCardSaid : Prop := Claim7.holds Tryz.pinned (.plain (OpenSpec.upto dumpTextsSpec)) dumpTextsUptoCard
end Rows
end Go.Proofs.YthaagimdjfkjpaaGreatDoor
