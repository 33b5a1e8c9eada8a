/-
  DERIVED. GIVEN WITH THE SEED: THE CARDS: each row of YtbnojnnmjdmmoaaGreatDoorRows.lean that lists a variable, with what it lists TIED to the program's text (the seventh form; the later family's looks); each row that meets fmt, with fmt's text TOLD by the authors' own Lean function (tested against real Go, not proved from fmt's source: count such statements apart). THE CARD IS WHAT COUNTS. Prove the row's statement (the work); the ties are given (YtbnojnnmjdmmoaaGreatDoorTie.lean); close each card by the builder's one call (the guide's Derived/Test/ToyasCard.lean, 'card_holds'). Laid BY PROGRAM, IN A SANDBOX (cutbox-door.mjs). By AI agents, Wed Nov 11 2026. No macro, syntax, notation, axiom, sorry.
-/
import Derived.Test.YtbnojnnmjdmmoaaGreatDoorRows
import GoSem.ClaimSeven
namespace Go.Proofs.YtbnojnnmjdmmoaaGreatDoor
namespace Rows

/-- THE TIED CARD OF 'fanlightlaw23.ShellOdd'. -/
def shellOddCard : Claim7 := { stood := { row := shellOddRow, standIns := [], harness := (true, "b9ccd024d0e9bca9592fb467ea304d296bc9eb5b5c5921a68cb28d3ae9112c0d"), looks := false }, kinds := [], alts := [], goes := true, laidByText := true, laidKinds := [.data, .data, .data, .data, .pinned], laidTests := true, laidLooks := .later }
def ShellOddCardSaid : Prop := Claim7.holds Tryz.pinned (.plain (OpenSpec.ofChange shellOddSpec)) shellOddCard
end Rows
end Go.Proofs.YtbnojnnmjdmmoaaGreatDoor
