/-
  DERIVED. GIVEN WITH THE SEED: THE CARDS: each row of YthaiopgmncnekaaDoorRows.lean that lists a variable, with what it lists TIED to the program's text (the seventh form; the later family's looks); each row that meets fmt, with fmt's text TOLD by the authors' own Lean function (tested against real Go, not proved from fmt's source: count such statements apart). THE CARD IS WHAT COUNTS. Prove the row's statement (the work); the ties are given (YthaiopgmncnekaaDoorTie.lean); close each card by the builder's one call (the guide's Derived/Test/ToyasCard.lean, 'card_holds'). Laid BY PROGRAM, IN A SANDBOX (cutbox-door.mjs). By AI agents, Wed Nov 11 2026. No macro, syntax, notation, axiom, sorry.
-/
import Derived.Test.YthaiopgmncnekaaDoorRows
import GoSem.ClaimSeven
namespace Go.Proofs.YthaiopgmncnekaaDoor
namespace Rows

/-- THE TIED CARD OF 'lotdrawertop.TopText'. -/
def topTextCard : Claim7 := { stood := { row := topTextRow, standIns := [], harness := (true, "cfb483ab83deccb194ccff240324924c331febc17543a8c75948a7403022d469"), looks := true }, kinds := [], alts := [], laidByText := true, laidKinds := [.data, .data, .data, .data, .sentinel, .sentinel, .pinned], laidTests := true, laidLooks := .later }
def TopTextCardSaid : Prop := Claim7.holds Tryd.pinned (.plain (OpenSpec.ofChange topTextSpec)) topTextCard

/-- THE TIED CARD OF 'lotdrawertop.TopStay'. -/
def topStayCard : Claim7 := { stood := { row := topStayRow, standIns := [], harness := (true, "cfb483ab83deccb194ccff240324924c331febc17543a8c75948a7403022d469"), looks := true }, kinds := [], alts := [], laidByText := true, laidKinds := [.data, .data, .data, .data, .sentinel, .sentinel, .pinned], laidTests := true, laidLooks := .later }
def TopStayCardSaid : Prop := Claim7.holds Tryd.pinned (.plain (OpenSpec.ofChange topStaySpec)) topStayCard

/-- THE TIED CARD OF 'lotdrawertop.TopCoins'. -/
def topCoinsCard : Claim7 := { stood := { row := topCoinsRow, standIns := [], harness := (true, "cfb483ab83deccb194ccff240324924c331febc17543a8c75948a7403022d469"), looks := true }, kinds := [], alts := [], laidByText := true, laidKinds := [.data, .data, .data, .data, .sentinel, .sentinel, .pinned], laidTests := true, laidLooks := .later }
def TopCoinsCardSaid : Prop := Claim7.holds Tryd.pinned (.plain (OpenSpec.ofChange topCoinsSpec)) topCoinsCard

/-- THE TIED CARD OF 'lotdrawertop.TopPooled'. -/
def topPooledCard : Claim7 := { stood := { row := topPooledRow, standIns := [], harness := (true, "cfb483ab83deccb194ccff240324924c331febc17543a8c75948a7403022d469"), looks := true }, kinds := [], alts := [], laidByText := true, laidKinds := [.data, .data, .data, .data, .sentinel, .sentinel, .pinned], laidTests := true, laidLooks := .later }
def TopPooledCardSaid : Prop := Claim7.holds Tryd.pinned (.plain (OpenSpec.ofChange topPooledSpec)) topPooledCard

/-- THE SECOND FORM's CARD OF 'lotdrawertop.TopText'. -/
def topTextUptoCard : Claim7 := { stood := { row := topTextUptoRow, standIns := [], harness := (true, "cfb483ab83deccb194ccff240324924c331febc17543a8c75948a7403022d469"), looks := true }, kinds := [], alts := [], laidByText := true, laidKinds := [.data, .data, .data, .data, .sentinel, .sentinel, .pinned], laidTests := true, laidLooks := .later }
def TopTextUptoCardSaid : Prop := Claim7.holds Tryd.pinned (.plain (OpenSpec.upto topTextSpec)) topTextUptoCard

/-- THE SECOND FORM's CARD OF 'lotdrawertop.TopStay'. -/
def topStayUptoCard : Claim7 := { stood := { row := topStayUptoRow, standIns := [], harness := (true, "cfb483ab83deccb194ccff240324924c331febc17543a8c75948a7403022d469"), looks := true }, kinds := [], alts := [], laidByText := true, laidKinds := [.data, .data, .data, .data, .sentinel, .sentinel, .pinned], laidTests := true, laidLooks := .later }
def TopStayUptoCardSaid : Prop := Claim7.holds Tryd.pinned (.plain (OpenSpec.upto topStaySpec)) topStayUptoCard

/-- THE SECOND FORM's CARD OF 'lotdrawertop.TopCoins'. -/
def topCoinsUptoCard : Claim7 := { stood := { row := topCoinsUptoRow, standIns := [], harness := (true, "cfb483ab83deccb194ccff240324924c331febc17543a8c75948a7403022d469"), looks := true }, kinds := [], alts := [], laidByText := true, laidKinds := [.data, .data, .data, .data, .sentinel, .sentinel, .pinned], laidTests := true, laidLooks := .later }
def TopCoinsUptoCardSaid : Prop := Claim7.holds Tryd.pinned (.plain (OpenSpec.upto topCoinsSpec)) topCoinsUptoCard

/-- THE SECOND FORM's CARD OF 'lotdrawertop.TopPooled'. -/
def topPooledUptoCard : Claim7 := { stood := { row := topPooledUptoRow, standIns := [], harness := (true, "cfb483ab83deccb194ccff240324924c331febc17543a8c75948a7403022d469"), looks := true }, kinds := [], alts := [], laidByText := true, laidKinds := [.data, .data, .data, .data, .sentinel, .sentinel, .pinned], laidTests := true, laidLooks := .later }
def TopPooledUptoCardSaid : Prop := Claim7.holds Tryd.pinned (.plain (OpenSpec.upto topPooledSpec)) topPooledUptoCard
end Rows
end Go.Proofs.YthaiopgmncnekaaDoor
