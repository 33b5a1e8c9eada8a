/- The closed facts of ShellOdd's row (B). -/
import Derived.Test.YtbnojnnmjdmmoaaGreatDoorCards
import Derived.JoinedOf
import Derived.KernelRfl
namespace Go.Proofs.YtbnojnnmjdmmoaaGreatDoor
theorem fact9 : ((Rows.shellOddRow.inPlace == Tryz.pinned.checked.prog.inPlace 3)) = true := by kernel_rfl
theorem fact10 : ((Rows.shellOddRow.unfollowed == Tryz.pinned.checked.prog.unfollowed 3)) = true := by kernel_rfl
end Go.Proofs.YtbnojnnmjdmmoaaGreatDoor
