/- The closed facts of ShellOdd's row (C). -/
import Derived.Test.YtbnojnnmjdmmoaaGreatDoorCards
import Derived.JoinedOf
import Derived.KernelRfl
namespace Go.Proofs.YtbnojnnmjdmmoaaGreatDoor
theorem fact11 : ((Rows.shellOddRow.recurses == Tryz.pinned.checked.prog.recurses 3)) = true := by kernel_rfl
theorem fact12 : ((Rows.shellOddRow.named == Tryz.pinned.checked.prog.varsNamed 3)) = true := by kernel_rfl
end Go.Proofs.YtbnojnnmjdmmoaaGreatDoor
