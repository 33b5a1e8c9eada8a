/- ShellOdd runs to true: its runs, a case for each of the odd words (C). -/
import Derived.Test.YtbnojnnmjdmmoaaGreatDoorOddDefs
namespace Go.Proofs
open Go.Ev
theorem run9 (m : Nat) : bres (CO m 9 3 [tok 1, tok 2, tok 3] ⟨.emp, 0⟩) = true := by kernel_rfl
theorem run10 (m : Nat) : bres (CO m 10 3 [tok 1, tok 2, tok 3] ⟨.emp, 0⟩) = true := by kernel_rfl
theorem run11 (m : Nat) : bres (CO m 11 3 [tok 1, tok 2, tok 3] ⟨.emp, 0⟩) = true := by kernel_rfl
theorem run12 (m : Nat) : bres (CO m 12 3 [tok 1, tok 2, tok 3] ⟨.emp, 0⟩) = true := by kernel_rfl
end Go.Proofs
