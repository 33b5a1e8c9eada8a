/- The closed facts of ShellOdd's row (A). -/
import Derived.Test.YtbnojnnmjdmmoaaGreatDoorCards
import Derived.JoinedOf
import Derived.KernelRfl
namespace Go.Proofs.YtbnojnnmjdmmoaaGreatDoor
theorem fact0 : (Rows.shellOddRow.wf (OpenSpec.ofChange Rows.shellOddSpec)) = true := by kernel_rfl
theorem fact1 : (laidOutB Tryz.pinned.checked.prog) = true := by kernel_rfl
theorem fact2 : (mapsRowed Tryz.pinned.checked.prog) = true := by kernel_rfl
theorem fact3 : (Tryz.f3.params.all (Tryz.pinned.checked.prog.readableRec ·)) = true := by kernel_rfl
theorem fact4 : (namedTie Tryz.pinned.checked.prog Rows.shellOddRow.named Rows.shellOddSpec.vars) = true := by kernel_rfl
theorem fact5 : ((Rows.shellOddRow.stops == [])) = true := by kernel_rfl
theorem fact6 : ((Tryz.pinned.checked.prog.stops == [])) = true := by kernel_rfl
theorem fact7 : ((Rows.shellOddRow.knobs == [])) = true := by kernel_rfl
theorem fact8 : ((Tryz.pinned.checked.prog.stopKnobs == [])) = true := by kernel_rfl
theorem fact23 : (Rows.shellOddRow.shortTexts.isNone) = true := by kernel_rfl
theorem fact29 : ((Rows.shellOddRow.pinned == Rows.shellOddRow.pinnedBy)) = true := by kernel_rfl
end Go.Proofs.YtbnojnnmjdmmoaaGreatDoor
