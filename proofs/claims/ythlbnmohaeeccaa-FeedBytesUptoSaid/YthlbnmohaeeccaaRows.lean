/-
  No cell of these rows narrows 'for every input' (looked for: loops, veiled, ifaces, maps, wideKeys, modest, calm, conditions, laid).
  DERIVED. THE GIVEN ROWS OF THIS SEAT. 4 by the template 'for every input the law returns true; each argument reads behind the call as it read before'; 0 by the template 'total and deterministic' (their statements: YthlbnmohaeeccaaTotals.lean).
  GIVEN WITH THE SEED: the statements are not yours to turn. If you find one false, say at which input.
  Laid BY PROGRAM, IN A SANDBOX (cutbox-rows.mjs): the forced cells as the released guide's own fill.sh prints them over the translation dbc36524af2a5522… (all of the seat's roots in one cut). By AI agents, Wed Nov 11 2026. No macro, syntax, notation, axiom, sorry.
-/
import Derived.Test.YthlbnmohaeeccaaChecked
import GoSem.Claim
import GoSem.ClaimJoined
import GoSem.ClaimMapViews
import Derived.JoinedTies
import Derived.KernelRfl
namespace Go.Proofs.Ythlbnmohaeeccaa
/- THE CELL 'sum', in the pinned program and in every row, IS THE sha256 OF THE DUMP (.gsa) THAT YthlbnmohaeeccaaProg.lean LOADS. Nothing in Lean hashes anything: it is a label: what it is worth is what the hold of that sum in a sandbox is worth. -/
noncomputable def Try.pinned : Pinned := { name := "ythlbnmohaeeccaa", sum := "dbc36524af2a5522c7d00a0230ce2e3259ac6562b8eb05fa19d14f7e3ecbe356", checked := Try.checked }
namespace Rows
def none {H : Type} : Left H := { results := [], args := [] }

/-- 'daybooklaw27.FeedBytes': WHATEVER THE INPUT: true; the input reads as it did. -/
def feedBytesSpec : ChangeSpec := { name := "feedBytes", fn := fun _ => fun
  | [d1, d2] => { results := [.lit (.bool true)], args := [d1, d2] }
  | _ => none }
def feedBytesRow : OpenClaim := { program := "ythlbnmohaeeccaa", sum := "dbc36524af2a5522c7d00a0230ce2e3259ac6562b8eb05fa19d14f7e3ecbe356", func := "daybook/daybooklaw27.FeedBytes", spec := "feedBytes", inPlace := ["internal/bytealg.abigen_runtime_cmpstring"], unfollowed := true, recurses := true, apart := false }
def FeedBytesSaid : Prop := feedBytesRow.holds Try.pinned (OpenSpec.ofChange feedBytesSpec)

/-- ITS FALSE NEIGHBOUR: 'it returns false'. Refute it at one input. -/
def feedBytesWrong : ChangeSpec := { name := "feedBytes", fn := fun _ => fun
  | [d1, d2] => { results := [.lit (.bool false)], args := [d1, d2] }
  | _ => none }
def FeedBytesWrongFalsely : Prop := feedBytesRow.holds Try.pinned (OpenSpec.ofChange feedBytesWrong)

/-- 'daybooklaw27.FeedOf': WHATEVER THE INPUT: true; the input reads as it did. -/
def feedOfSpec : ChangeSpec := { name := "feedOf", fn := fun _ => fun
  | [d1, d2, d3] => { results := [.lit (.bool true)], args := [d1, d2, d3] }
  | _ => none }
def feedOfRow : OpenClaim := { program := "ythlbnmohaeeccaa", sum := "dbc36524af2a5522c7d00a0230ce2e3259ac6562b8eb05fa19d14f7e3ecbe356", func := "daybook/daybooklaw27.FeedOf", spec := "feedOf", inPlace := ["internal/bytealg.abigen_runtime_cmpstring"], unfollowed := true, recurses := true, apart := false }
def FeedOfSaid : Prop := feedOfRow.holds Try.pinned (OpenSpec.ofChange feedOfSpec)

/-- ITS FALSE NEIGHBOUR: 'it returns false'. Refute it at one input. -/
def feedOfWrong : ChangeSpec := { name := "feedOf", fn := fun _ => fun
  | [d1, d2, d3] => { results := [.lit (.bool false)], args := [d1, d2, d3] }
  | _ => none }
def FeedOfWrongFalsely : Prop := feedOfRow.holds Try.pinned (OpenSpec.ofChange feedOfWrong)

/-- 'daybooklaw27.FeedSums': WHATEVER THE INPUT: true; the input reads as it did. -/
def feedSumsSpec : ChangeSpec := { name := "feedSums", fn := fun _ => fun
  | [d1, d2] => { results := [.lit (.bool true)], args := [d1, d2] }
  | _ => none }
def feedSumsRow : OpenClaim := { program := "ythlbnmohaeeccaa", sum := "dbc36524af2a5522c7d00a0230ce2e3259ac6562b8eb05fa19d14f7e3ecbe356", func := "daybook/daybooklaw27.FeedSums", spec := "feedSums", inPlace := ["internal/bytealg.abigen_runtime_cmpstring"], unfollowed := true, recurses := true, apart := false }
def FeedSumsSaid : Prop := feedSumsRow.holds Try.pinned (OpenSpec.ofChange feedSumsSpec)

/-- ITS FALSE NEIGHBOUR: 'it returns false'. Refute it at one input. -/
def feedSumsWrong : ChangeSpec := { name := "feedSums", fn := fun _ => fun
  | [d1, d2] => { results := [.lit (.bool false)], args := [d1, d2] }
  | _ => none }
def FeedSumsWrongFalsely : Prop := feedSumsRow.holds Try.pinned (OpenSpec.ofChange feedSumsWrong)

/-- 'daybooklaw27.FeedBack': WHATEVER THE INPUT: true; the input reads as it did. -/
def feedBackSpec : ChangeSpec := { name := "feedBack", fn := fun _ => fun
  | [d1, d2] => { results := [.lit (.bool true)], args := [d1, d2] }
  | _ => none }
def feedBackRow : OpenClaim := { program := "ythlbnmohaeeccaa", sum := "dbc36524af2a5522c7d00a0230ce2e3259ac6562b8eb05fa19d14f7e3ecbe356", func := "daybook/daybooklaw27.FeedBack", spec := "feedBack", inPlace := ["internal/bytealg.abigen_runtime_cmpstring"], unfollowed := true, recurses := true, apart := false }
def FeedBackSaid : Prop := feedBackRow.holds Try.pinned (OpenSpec.ofChange feedBackSpec)

/-- ITS FALSE NEIGHBOUR: 'it returns false'. Refute it at one input. -/
def feedBackWrong : ChangeSpec := { name := "feedBack", fn := fun _ => fun
  | [d1, d2] => { results := [.lit (.bool false)], args := [d1, d2] }
  | _ => none }
def FeedBackWrongFalsely : Prop := feedBackRow.holds Try.pinned (OpenSpec.ofChange feedBackWrong)

/- THE SECOND FORM. 'bulk': how many values and letters a reading holds, each counted each time it is reached (what is shared counts as often as it is met; a slice's spare places count too). A statement '..UptoSaid' is the law's where the arguments, and the package variables that the reading takes, are together of bulk at most 1048576: NARROWER than '..Said'. Prove '..Said' where nothing that the law and all that it calls make is longer than what came in: it says more and counts as full. Else prove '..UptoSaid'. A law counts once. -/
mutual
def uptoBulk {H : Type} : DataW H → Nat
  | .lit (.string bytes) => bytes.length + 1
  | .lit _ => 1
  | .nil => 1
  | .ptr d => uptoBulk d + 1
  | .slice elems spare => uptoBulkAll elems + uptoBulkAll spare + 1
  | .agg parts => uptoBulkAll parts + 1
  | .iface _ d => uptoBulk d + 1
  | .map entries => uptoBulkEntries entries + 1
  | .held _ => 1
def uptoBulkAll {H : Type} : List (DataW H) → Nat
  | [] => 0
  | d :: r => uptoBulk d + uptoBulkAll r
def uptoBulkEntries {H : Type} : List (Lit × DataW H) → Nat
  | [] => 0
  | x :: r => uptoBulkEntry x + uptoBulkEntries r
def uptoBulkEntry {H : Type} : Lit × DataW H → Nat
  | (.string bytes, d) => bytes.length + uptoBulk d + 1
  | (_, d) => uptoBulk d + 1
 end
def uptoSmall : (H : Type) → List (DataW H) → Bool := fun _ ds => decide (uptoBulkAll ds ≤ 1048576)
def OpenSpec.upto (s : _root_.Go.ChangeSpec) : _root_.Go.OpenSpec := { _root_.Go.OpenSpec.ofChange s with cond := some uptoSmall }

/-- 'daybooklaw27.FeedBytes', WHERE WHAT IT READS IS OF BULK AT MOST 1048576: true; the input reads as it did. -/
def feedBytesUptoRow : OpenClaim := { program := "ythlbnmohaeeccaa", sum := "dbc36524af2a5522c7d00a0230ce2e3259ac6562b8eb05fa19d14f7e3ecbe356", func := "daybook/daybooklaw27.FeedBytes", spec := "feedBytes", inPlace := ["internal/bytealg.abigen_runtime_cmpstring"], unfollowed := true, recurses := true, apart := false, narrowed := true }
def FeedBytesUptoSaid : Prop := feedBytesUptoRow.holds Try.pinned (OpenSpec.upto feedBytesSpec)

/-- 'daybooklaw27.FeedOf', WHERE WHAT IT READS IS OF BULK AT MOST 1048576: true; the input reads as it did. -/
def feedOfUptoRow : OpenClaim := { program := "ythlbnmohaeeccaa", sum := "dbc36524af2a5522c7d00a0230ce2e3259ac6562b8eb05fa19d14f7e3ecbe356", func := "daybook/daybooklaw27.FeedOf", spec := "feedOf", inPlace := ["internal/bytealg.abigen_runtime_cmpstring"], unfollowed := true, recurses := true, apart := false, narrowed := true }
def FeedOfUptoSaid : Prop := feedOfUptoRow.holds Try.pinned (OpenSpec.upto feedOfSpec)

/-- 'daybooklaw27.FeedSums', WHERE WHAT IT READS IS OF BULK AT MOST 1048576: true; the input reads as it did. -/
def feedSumsUptoRow : OpenClaim := { program := "ythlbnmohaeeccaa", sum := "dbc36524af2a5522c7d00a0230ce2e3259ac6562b8eb05fa19d14f7e3ecbe356", func := "daybook/daybooklaw27.FeedSums", spec := "feedSums", inPlace := ["internal/bytealg.abigen_runtime_cmpstring"], unfollowed := true, recurses := true, apart := false, narrowed := true }
def FeedSumsUptoSaid : Prop := feedSumsUptoRow.holds Try.pinned (OpenSpec.upto feedSumsSpec)

/-- 'daybooklaw27.FeedBack', WHERE WHAT IT READS IS OF BULK AT MOST 1048576: true; the input reads as it did. -/
def feedBackUptoRow : OpenClaim := { program := "ythlbnmohaeeccaa", sum := "dbc36524af2a5522c7d00a0230ce2e3259ac6562b8eb05fa19d14f7e3ecbe356", func := "daybook/daybooklaw27.FeedBack", spec := "feedBack", inPlace := ["internal/bytealg.abigen_runtime_cmpstring"], unfollowed := true, recurses := true, apart := false, narrowed := true }
def FeedBackUptoSaid : Prop := feedBackUptoRow.holds Try.pinned (OpenSpec.upto feedBackSpec)

end Rows
end Go.Proofs.Ythlbnmohaeeccaa
