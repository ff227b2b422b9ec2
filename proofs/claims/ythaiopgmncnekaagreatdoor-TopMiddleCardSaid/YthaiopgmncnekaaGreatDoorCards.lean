/-
  DERIVED. GIVEN WITH THE SEED: THE CARDS: each row of YthaiopgmncnekaaGreatDoorRows.lean that lists a variable, with what it lists TIED to the program's text (the seventh form; the later family's looks); each row that meets fmt, with fmt's text TOLD by the authors' own Lean function (tested against real Go, not proved from fmt's source: count such statements apart). THE CARD IS WHAT COUNTS. Prove the row's statement (the work); the ties are given (YthaiopgmncnekaaGreatDoorTie.lean); close each card by the builder's one call (the guide's Derived/Test/ToyasCard.lean, 'card_holds'). Laid BY PROGRAM, IN A SANDBOX (cutbox-door.mjs). By AI agents, Wed Nov 11 2026. No macro, syntax, notation, axiom, sorry.
-/
import Derived.Test.YthaiopgmncnekaaGreatDoorRows
import GoSem.ClaimSeven
namespace Go.Proofs.YthaiopgmncnekaaGreatDoor
namespace Rows

/-- THE TIED CARD OF 'lotdrawertop.TopMiddle'. -/
def topMiddleCard : Claim7 := { stood := { row := topMiddleRow, standIns := [], harness := (true, "2870e4e790f978ce77b19b4ad7eb5612d2c7c770c281744301117348502188c5"), looks := true }, kinds := [], alts := [], laidByText := true, laidKinds := [.data, .data, .data, .data, .sentinel, .sentinel, .pinned], laidTests := true, laidLooks := .later }
def TopMiddleCardSaid : Prop := Claim7.holds Tryz.pinned (.plain (OpenSpec.ofChange topMiddleSpec)) topMiddleCard

/-- THE SECOND FORM's CARD OF 'lotdrawertop.TopMiddle'. -/
def topMiddleUptoCard : Claim7 := { stood := { row := topMiddleUptoRow, standIns := [], harness := (true, "2870e4e790f978ce77b19b4ad7eb5612d2c7c770c281744301117348502188c5"), looks := true }, kinds := [], alts := [], laidByText := true, laidKinds := [.data, .data, .data, .data, .sentinel, .sentinel, .pinned], laidTests := true, laidLooks := .later }
def TopMiddleUptoCardSaid : Prop := Claim7.holds Tryz.pinned (.plain (OpenSpec.upto topMiddleSpec)) topMiddleUptoCard
end Rows
end Go.Proofs.YthaiopgmncnekaaGreatDoor
