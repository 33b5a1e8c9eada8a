/- ShellOdd runs to true: its runs, a case for each of the odd words (B). -/
import Derived.Test.YtbnojnnmjdmmoaaGreatDoorOddDefs
namespace Go.Proofs
open Go.Ev
theorem run5 (m : Nat) : bres (CO m 5 3 [tok 1, tok 2, tok 3] ⟨.emp, 0⟩) = true := by kernel_rfl
theorem run6 (m : Nat) : bres (CO m 6 3 [tok 1, tok 2, tok 3] ⟨.emp, 0⟩) = true := by kernel_rfl
theorem run7 (m : Nat) : bres (CO m 7 3 [tok 1, tok 2, tok 3] ⟨.emp, 0⟩) = true := by kernel_rfl
theorem run8 (m : Nat) : bres (CO m 8 3 [tok 1, tok 2, tok 3] ⟨.emp, 0⟩) = true := by kernel_rfl
end Go.Proofs
