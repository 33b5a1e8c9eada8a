/- The witness of ShellOdd's row, and its closed facts. -/
import Derived.Test.YtbnojnnmjdmmoaaGreatDoorOddFactsA
import Derived.Test.YtbnojnnmjdmmoaaGreatDoorOddFactsB
import Derived.Test.YtbnojnnmjdmmoaaGreatDoorOddFactsC
import Derived.Test.YtbnojnnmjdmmoaaGreatDoorOddFactsD
import Derived.Test.YtbnojnnmjdmmoaaGreatDoorTie
import Derived.Handed
import Derived.Lay
import Derived.LaidMore
import Derived.MakeChecks
import Derived.OpenShut
import Derived.ProofKit
import Derived.Conc.HoldsTime
namespace Go.Proofs.YtbnojnnmjdmmoaaGreatDoor
open Go.ChangeShapes Go.WideShapes Go.ChangeAt Go.RowKit

theorem own : ownKnob Tryz.prog.godebug = none := by kernel_rfl
theorem named_ok : Tryz.pinned.checked.prog.funcNamed Rows.shellOddRow.func = some 3 := by kernel_rfl
theorem andI {a b : Bool} (h : a = true) (g : b = true) : (a && b) = true := by rw [h, g]; rfl
set_option maxRecDepth 100000 in
theorem closed_ok' : joinedFacts Tryz.pinned.checked.prog 3 Tryz.f3 Rows.shellOddSpec Rows.shellOddRow = true := by
  unfold joinedFacts
  exact andI (andI (andI (andI (andI (andI (andI (andI (andI (andI (andI (andI (andI (andI (andI (andI (andI (andI (andI (andI (andI (andI (andI (andI (andI (andI (andI (andI (andI (andI (andI (fact0) fact1) fact2) fact3) fact4) fact5) fact6) fact7) fact8) fact9) fact10) fact11) fact12) fact13) fact14) fact15) fact16) fact17) fact18) fact19) fact20) fact21) fact22) fact23) fact24) fact25) fact26) fact27) fact28) fact29) fact30) fact31
theorem inst_ok : Tryz.f3.isInstance Tryz.pinned.checked.prog Rows.shellOddRow.origin Rows.shellOddRow.targs := of_decide_eq_true (by kernel_rfl)
theorem wrap_ok : Tryz.f3.isWrapper Tryz.pinned.checked.prog Rows.shellOddRow.wrapper Rows.shellOddRow.mainSum := by
  unfold Func.isWrapper
  first | (rw [if_pos (by decide +kernel)]; kernel_rfl) | (rw [if_neg (by decide +kernel)]; exact ⟨rfl, rfl⟩)

set_option maxRecDepth 100000 in
theorem witness (os : Os) (H : Type) (enc : TypeId × Value → H) : ∃ (w : World) (tape : Tape) (i : Input), w.os = os ∧ (w.forCall tape i).Shaped Tryz.prog ∧ i.vars = [] ∧ Input.okWide Tryz.prog (w.forCall tape i) .any w.heap.size 3 i ∧
    Rows.shellOddRow.pre enc Tryz.prog Tryz.f3 (OpenSpec.ofChange Rows.shellOddSpec) (w.forCall tape i).memory i.args ∧ Rows.shellOddRow.assume.holds Tryz.prog (lone (Frame.enter Tryz.prog 3 i.args .normal) [] (w.forCall tape i)) := by
  let args : Array Value := #[.int .i64 0, .int .i64 0, .string .empty]
  have hok : Input.okWideB Tryz.prog ((World.laidAll Tryz.prog os Rows.shellOddRow.laid).forCall (fun _ _ => 0) ⟨#[], args, []⟩) 3 ⟨#[], args, []⟩ = true := by kernel_rfl
  have hpre : (OpenSpec.ofChange Rows.shellOddSpec).bare.preB enc Tryz.prog Tryz.f3 Rows.shellOddRow.domain false ((World.laidAll Tryz.prog os Rows.shellOddRow.laid).forCall (fun _ _ => 0) ⟨#[], args, []⟩).memory args 8 = true := by kernel_rfl
  have hsz : Rows.shellOddSpec.sizedB enc Tryz.prog Tryz.f3 false ((World.laidAll Tryz.prog os Rows.shellOddRow.laid).forCall (fun _ _ => 0) ⟨#[], args, []⟩).memory args 8 = true := by kernel_rfl
  refine ⟨World.laidAll Tryz.prog os Rows.shellOddRow.laid, fun _ _ => 0, ⟨#[], args, []⟩, World.laidAll_os _ _ _, World.shaped_of_ZipB (by kernel_rfl) (by kernel_rfl), (Input.okWide_of_okWideB (base := 0) hok).1, (Input.okWide_of_okWideB hok).2,
    ⟨⟨ChangeSpec.pre_of_preB (apart := false) hpre, ?_⟩, sizedMet_of_sizedB hsz⟩, ?_⟩
  · rw [MakeChecks.laidMetH_plain _ _ _ (by kernel_rfl)]
    exact laidMet_laidAll _ (by kernel_rfl) (by kernel_rfl)
  · simp only [Assume.holds]
    exact ⟨by simp [OpenClaim.assume, Rows.shellOddRow], fun _ _ _ _ => rfl, by simp [OpenClaim.assume, Rows.shellOddRow], by simp [OpenClaim.assume, Rows.shellOddRow], by simp [OpenClaim.assume, Rows.shellOddRow]⟩

end Go.Proofs.YtbnojnnmjdmmoaaGreatDoor
