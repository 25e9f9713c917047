/- Parts of the proof in YthlbnmohaeeccaaFin: FeAb, FeBl. -/
import Derived.Test.YthlbnmohaeeccaaLd
import Derived.Test.YthlbnmohaeeccaaLf
import Derived.Test.YthlbnmohaeeccaaLh
import Derived.Test.YthlbnmohaeeccaaLi
import Derived.Test.YthlbnmohaeeccaaK4
set_option linter.unusedVariables false
set_option linter.unusedSimpArgs false
section
set_option maxHeartbeats 4000000
set_option maxRecDepth 20000
namespace Go.Px.Fe
open Go.Proofs Go.Px.Fs
attribute [local irreducible] Go.Px.KOk
end Go.Px.Fe
end
section
set_option maxHeartbeats 4000000
set_option maxRecDepth 20000
namespace Go.Px.Fe
open Go.Proofs Go.Px.Fs
attribute [local irreducible] Go.Px.KOk
theorem i3 : ((0 : Int) ≤ 0 ∧ (0 : Int) < ((3 : Nat) : Int)) ∧ ((0 : Int) ≤ 0 + 1 ∧ (0 : Int) + 1 < ((3 : Nat) : Int)) ∧ ((0 : Int) ≤ 0 + 1 + 1 ∧ (0 : Int) + 1 + 1 < ((3 : Nat) : Int)) := by decide
end Go.Px.Fe
end
