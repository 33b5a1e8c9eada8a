/- ShellOdd: THE TIED CARD: for every input the law answers true, and leaves its arguments as they were; the listed variables are tied to the program's text. Conditions, as the card's cells say: calm (no answer of the tape but an order), the listed tables of Go's library read as laid, time may pass. -/
import Derived.Test.YtbnojnnmjdmmoaaGreatDoorOddProofs
namespace Go.Proofs.YtbnojnnmjdmmoaaGreatDoor
theorem main_ok : Tryz.pinned.checked.prog.mainIs = some (true, "b9ccd024d0e9bca9592fb467ea304d296bc9eb5b5c5921a68cb28d3ae9112c0d".toList) := by kernel_rfl
theorem text_ok : Rows.shellOddRow.wfByText (OpenSpec.ofChange Rows.shellOddSpec) = true := by kernel_rfl
theorem looks_ok : false = Tryz.prog.looks [] := by kernel_rfl
theorem stand_ok : ([3, 9].all fun u => !Tryz.prog.wantsStandIn u) = true := by kernel_rfl
theorem goes_ok : true = Rows.shellOddRow.goesBy Tryz.pinned.checked.prog := by kernel_rfl

theorem shellOdd_card : Rows.ShellOddCardSaid := by
  have h6 : Claim7.isSixth { stood := { row := Rows.shellOddRow, standIns := [], harness := (true, "b9ccd024d0e9bca9592fb467ea304d296bc9eb5b5c5921a68cb28d3ae9112c0d"), looks := false }, kinds := [] } = false := by
    simp [Claim7.isSixth]
  refine ⟨Claim7.tied_new_at .later [.data, .data, .data, .data, .pinned] true (Claim7.new_of_sixth shellOdd_holds (true, "b9ccd024d0e9bca9592fb467ea304d296bc9eb5b5c5921a68cb28d3ae9112c0d") false rfl ⟨rfl, rfl⟩ main_ok h6 ?_) text_ok, (fun D hD => by cases hD), shellOdd_row_tie, (fun h => by cases h), goes_ok⟩
  intro f fn hf hfn
  obtain rfl : f = 3 := Option.some.inj (named_ok.symm.trans hf) |>.symm
  obtain rfl : fn = Tryz.f3 := (Option.some.inj (Tryz.func3.symm.trans hfn)).symm
  exact ⟨looks_ok, fun j t ht => by
    rw [Tryz.params3] at ht
    have hm : t ∈ [3, 9] := by
      have := Array.mem_of_getElem? ht
      simp at this ⊢
      omega
    exact (show Tryz.prog.wantsStandIn t = false by simpa using List.all_eq_true.1 stand_ok t hm)⟩
end Go.Proofs.YtbnojnnmjdmmoaaGreatDoor
