/-
  DERIVED. GIVEN WITH THE SEED: THE CARDS: each row of YthhgglnhjllboaaGreatDoorRows.lean that lists a variable, with what it lists TIED to the program's text (the seventh form; the later family's looks); each row that meets fmt, with fmt's text TOLD by the authors' own Lean function (tested against real Go, not proved from fmt's source: count such statements apart). THE CARD IS WHAT COUNTS. Prove the row's statement (the work); the ties are given (YthhgglnhjllboaaGreatDoorTie.lean); close each card by the builder's one call (the guide's Derived/Test/ToyasCard.lean, 'card_holds'). Laid BY PROGRAM, IN A SANDBOX (cutbox-door.mjs). By AI agents, Wed Nov 11 2026. No macro, syntax, notation, axiom, sorry.
-/
import Derived.Test.YthhgglnhjllboaaGreatDoorRows
import GoSem.ClaimSeven
namespace Go.Proofs.YthhgglnhjllboaaGreatDoor
namespace Rows

/-- THE TIED CARD OF 'daybooklaw12.RuleVars'. -/
def ruleVarsCard : Claim7 := { stood := { row := ruleVarsRow, standIns := [], harness := (true, "95fa2ac899f97e0b685ef82eba871b8faf2213ea094ac44f7d803ff06a285942"), looks := true }, kinds := [], alts := [], laidByText := true, laidKinds := [.data, .data, .data, .data, .sentinel, .sentinel, .pinned], laidTests := true, laidLooks := .later }
def RuleVarsCardSaid : Prop := Claim7.holds Tryz.pinned (.plain (OpenSpec.ofChange ruleVarsSpec)) ruleVarsCard

/-- THE SECOND FORM's CARD OF 'daybooklaw12.RuleVars'. -/
def ruleVarsUptoCard : Claim7 := { stood := { row := ruleVarsUptoRow, standIns := [], harness := (true, "95fa2ac899f97e0b685ef82eba871b8faf2213ea094ac44f7d803ff06a285942"), looks := true }, kinds := [], alts := [], laidByText := true, laidKinds := [.data, .data, .data, .data, .sentinel, .sentinel, .pinned], laidTests := true, laidLooks := .later }
def RuleVarsUptoCardSaid : Prop := Claim7.holds Tryz.pinned (.plain (OpenSpec.upto ruleVarsSpec)) ruleVarsUptoCard
end Rows
end Go.Proofs.YthhgglnhjllboaaGreatDoor
