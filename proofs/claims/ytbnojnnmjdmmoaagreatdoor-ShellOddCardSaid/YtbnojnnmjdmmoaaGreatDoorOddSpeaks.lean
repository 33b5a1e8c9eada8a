/- speaks() answers true: its run. -/
import Derived.Test.YtbnojnnmjdmmoaaGreatDoorOddDefs
namespace Go.Proofs
open Go.Ev
theorem speaks_true : bres (C1 5 [] ⟨.emp, 0⟩) = true := by kernel_rfl
end Go.Proofs
