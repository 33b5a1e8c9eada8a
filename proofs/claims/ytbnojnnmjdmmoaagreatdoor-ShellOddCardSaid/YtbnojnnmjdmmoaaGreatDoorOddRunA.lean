/- ShellOdd runs to true: its runs, a case for each of the odd words (A). -/
import Derived.Test.YtbnojnnmjdmmoaaGreatDoorOddDefs
namespace Go.Proofs
open Go.Ev
theorem run0 (m : Nat) : bres (CO m 0 3 [tok 1, tok 2, tok 3] ⟨.emp, 0⟩) = true := by kernel_rfl
theorem run1 (m : Nat) : bres (CO m 1 3 [tok 1, tok 2, tok 3] ⟨.emp, 0⟩) = true := by kernel_rfl
theorem run2 (m : Nat) : bres (CO m 2 3 [tok 1, tok 2, tok 3] ⟨.emp, 0⟩) = true := by kernel_rfl
theorem run3 (m : Nat) : bres (CO m 3 3 [tok 1, tok 2, tok 3] ⟨.emp, 0⟩) = true := by kernel_rfl
theorem run4 (m : Nat) : bres (CO m 4 3 [tok 1, tok 2, tok 3] ⟨.emp, 0⟩) = true := by kernel_rfl
end Go.Proofs
