/- ShellOdd runs to true: its runs, a case for each of the odd words (D). -/
import Derived.Test.YtbnojnnmjdmmoaaGreatDoorOddDefs
namespace Go.Proofs
open Go.Ev
theorem run13 (m : Nat) : bres (CO m 13 3 [tok 1, tok 2, tok 3] ⟨.emp, 0⟩) = true := by kernel_rfl
theorem run14 (m : Nat) : bres (CO m 14 3 [tok 1, tok 2, tok 3] ⟨.emp, 0⟩) = true := by kernel_rfl
theorem run15 (m : Nat) : bres (CO m 15 3 [tok 1, tok 2, tok 3] ⟨.emp, 0⟩) = true := by kernel_rfl
theorem run16 (m : Nat) : bres (CO m 16 3 [tok 1, tok 2, tok 3] ⟨.emp, 0⟩) = true := by kernel_rfl
end Go.Proofs
