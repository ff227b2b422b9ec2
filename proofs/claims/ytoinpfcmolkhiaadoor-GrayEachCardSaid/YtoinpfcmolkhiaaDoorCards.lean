/-
  DERIVED. GIVEN WITH THE SEED: THE CARDS: each row of YtoinpfcmolkhiaaDoorRows.lean that lists a variable, with what it lists TIED to the program's text (the seventh form; the later family's looks); each row that meets fmt, with fmt's text TOLD by the authors' own Lean function (tested against real Go, not proved from fmt's source: count such statements apart). THE CARD IS WHAT COUNTS. Prove the row's statement (the work); the ties are given (YtoinpfcmolkhiaaDoorTie.lean); close each card by the builder's one call (the guide's Derived/Test/ToyasCard.lean, 'card_holds'). Laid BY PROGRAM, IN A SANDBOX (cutbox-door.mjs). By AI agents, Wed Nov 11 2026. No macro, syntax, notation, axiom, sorry.
-/
import Derived.Test.YtoinpfcmolkhiaaDoorRows
import GoSem.ClaimSeven
namespace Go.Proofs.YtoinpfcmolkhiaaDoor
namespace Rows

/-- THE TIED CARD OF 'lotdrawerkeep.GrayMix'. -/
def grayMixCard : Claim7 := { stood := { row := grayMixRow, standIns := [], harness := (true, "9941c54495c2fb1927d4889c4c5e171ab43a2cc901210878af5fb07f82adc2ac"), looks := false }, kinds := [], alts := [], laidByText := true, laidKinds := [.data], laidTests := true, laidLooks := .later }
def GrayMixCardSaid : Prop := Claim7.holds Tryd.pinned (.plain (OpenSpec.ofChange grayMixSpec)) grayMixCard

/-- THE TIED CARD OF 'lotdrawerkeep.GrayEach'. -/
def grayEachCard : Claim7 := { stood := { row := grayEachRow, standIns := [], harness := (true, "9941c54495c2fb1927d4889c4c5e171ab43a2cc901210878af5fb07f82adc2ac"), looks := false }, kinds := [], alts := [], laidByText := true, laidKinds := [.data], laidTests := true, laidLooks := .later }
def GrayEachCardSaid : Prop := Claim7.holds Tryd.pinned (.plain (OpenSpec.ofChange grayEachSpec)) grayEachCard

/-- THE TIED CARD OF 'lotdrawerkeep.GrayLeast'. -/
def grayLeastCard : Claim7 := { stood := { row := grayLeastRow, standIns := [], harness := (true, "9941c54495c2fb1927d4889c4c5e171ab43a2cc901210878af5fb07f82adc2ac"), looks := false }, kinds := [], alts := [], laidByText := true, laidKinds := [.data], laidTests := true, laidLooks := .later }
def GrayLeastCardSaid : Prop := Claim7.holds Tryd.pinned (.plain (OpenSpec.ofChange grayLeastSpec)) grayLeastCard

/-- THE TIED CARD OF 'lotdrawerkeep.GrayOne'. -/
def grayOneCard : Claim7 := { stood := { row := grayOneRow, standIns := [], harness := (true, "9941c54495c2fb1927d4889c4c5e171ab43a2cc901210878af5fb07f82adc2ac"), looks := false }, kinds := [], alts := [], laidByText := true, laidKinds := [.data], laidTests := true, laidLooks := .later }
def GrayOneCardSaid : Prop := Claim7.holds Tryd.pinned (.plain (OpenSpec.ofChange grayOneSpec)) grayOneCard

/-- THE SECOND FORM's CARD OF 'lotdrawerkeep.GrayMix'. -/
def grayMixUptoCard : Claim7 := { stood := { row := grayMixUptoRow, standIns := [], harness := (true, "9941c54495c2fb1927d4889c4c5e171ab43a2cc901210878af5fb07f82adc2ac"), looks := false }, kinds := [], alts := [], laidByText := true, laidKinds := [.data], laidTests := true, laidLooks := .later }
def GrayMixUptoCardSaid : Prop := Claim7.holds Tryd.pinned (.plain (OpenSpec.upto grayMixSpec)) grayMixUptoCard

/-- THE SECOND FORM's CARD OF 'lotdrawerkeep.GrayEach'. -/
def grayEachUptoCard : Claim7 := { stood := { row := grayEachUptoRow, standIns := [], harness := (true, "9941c54495c2fb1927d4889c4c5e171ab43a2cc901210878af5fb07f82adc2ac"), looks := false }, kinds := [], alts := [], laidByText := true, laidKinds := [.data], laidTests := true, laidLooks := .later }
def GrayEachUptoCardSaid : Prop := Claim7.holds Tryd.pinned (.plain (OpenSpec.upto grayEachSpec)) grayEachUptoCard

/-- THE SECOND FORM's CARD OF 'lotdrawerkeep.GrayLeast'. -/
def grayLeastUptoCard : Claim7 := { stood := { row := grayLeastUptoRow, standIns := [], harness := (true, "9941c54495c2fb1927d4889c4c5e171ab43a2cc901210878af5fb07f82adc2ac"), looks := false }, kinds := [], alts := [], laidByText := true, laidKinds := [.data], laidTests := true, laidLooks := .later }
def GrayLeastUptoCardSaid : Prop := Claim7.holds Tryd.pinned (.plain (OpenSpec.upto grayLeastSpec)) grayLeastUptoCard

/-- THE SECOND FORM's CARD OF 'lotdrawerkeep.GrayOne'. -/
def grayOneUptoCard : Claim7 := { stood := { row := grayOneUptoRow, standIns := [], harness := (true, "9941c54495c2fb1927d4889c4c5e171ab43a2cc901210878af5fb07f82adc2ac"), looks := false }, kinds := [], alts := [], laidByText := true, laidKinds := [.data], laidTests := true, laidLooks := .later }
def GrayOneUptoCardSaid : Prop := Claim7.holds Tryd.pinned (.plain (OpenSpec.upto grayOneSpec)) grayOneUptoCard
end Rows
end Go.Proofs.YtoinpfcmolkhiaaDoor
