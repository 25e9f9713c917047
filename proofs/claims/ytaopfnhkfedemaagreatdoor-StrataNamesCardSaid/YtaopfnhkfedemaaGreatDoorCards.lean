/-
  DERIVED. GIVEN WITH THE SEED: THE CARDS: each row of YtaopfnhkfedemaaGreatDoorRows.lean that lists a variable, with what it lists TIED to the program's text (the seventh form; the later family's looks); each row that meets fmt, with fmt's text TOLD by the authors' own Lean function (tested against real Go, not proved from fmt's source: count such statements apart). THE CARD IS WHAT COUNTS. Prove the row's statement (the work); the ties are given (YtaopfnhkfedemaaGreatDoorTie.lean); close each card by the builder's one call (the guide's Derived/Test/ToyasCard.lean, 'card_holds'). Laid BY PROGRAM, IN A SANDBOX (cutbox-door.mjs). By AI agents, Wed Nov 11 2026. No macro, syntax, notation, axiom, sorry.
-/
import Derived.Test.YtaopfnhkfedemaaGreatDoorRows
import GoSem.ClaimSeven
namespace Go.Proofs.YtaopfnhkfedemaaGreatDoor
namespace Rows

/-- THE TIED CARD OF 'daybooklaw13.StrataNames'. -/
def strataNamesCard : Claim7 := { stood := { row := strataNamesRow, standIns := [], harness := (true, "f64788c69db2f8c936bc32b2770bdb08348866885f3d2c344506ee7c5abbf7d8"), looks := true }, kinds := [], alts := [], laidByText := true, laidKinds := [.data, .data, .data, .data, .sentinel, .sentinel, .pinned], laidTests := true, laidLooks := .later }
def StrataNamesCardSaid : Prop := Claim7.holds Tryz.pinned (.plain (OpenSpec.ofChange strataNamesSpec)) strataNamesCard

/-- THE SECOND FORM's CARD OF 'daybooklaw13.StrataNames'. -/
def strataNamesUptoCard : Claim7 := { stood := { row := strataNamesUptoRow, standIns := [], harness := (true, "f64788c69db2f8c936bc32b2770bdb08348866885f3d2c344506ee7c5abbf7d8"), looks := true }, kinds := [], alts := [], laidByText := true, laidKinds := [.data, .data, .data, .data, .sentinel, .sentinel, .pinned], laidTests := true, laidLooks := .later }
def StrataNamesUptoCardSaid : Prop := Claim7.holds Tryz.pinned (.plain (OpenSpec.upto strataNamesSpec)) strataNamesUptoCard
end Rows
end Go.Proofs.YtaopfnhkfedemaaGreatDoor
