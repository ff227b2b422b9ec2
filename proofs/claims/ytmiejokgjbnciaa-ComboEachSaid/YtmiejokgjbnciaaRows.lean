/-
  No cell of these rows narrows 'for every input' (looked for: loops, veiled, ifaces, maps, wideKeys, modest, calm, conditions, laid).
  DERIVED. THE GIVEN ROWS OF THIS SEAT. 4 by the template 'for every input the law returns true; each argument reads behind the call as it read before'; 0 by the template 'total and deterministic' (their statements: YtmiejokgjbnciaaTotals.lean).
  GIVEN WITH THE SEED: the statements are not yours to turn. If you find one false, say at which input.
  Laid BY PROGRAM, IN A SANDBOX (cutbox-rows.mjs): the forced cells as the released guide's own fill.sh prints them over the translation 8a604bdab9e2a7e0… (all of the seat's roots in one cut). By AI agents, Wed Nov 11 2026. No macro, syntax, notation, axiom, sorry.
-/
import Derived.Test.YtmiejokgjbnciaaChecked
import GoSem.Claim
import GoSem.ClaimJoined
import GoSem.ClaimMapViews
import Derived.JoinedTies
import Derived.KernelRfl
namespace Go.Proofs.Ytmiejokgjbnciaa
/- THE CELL 'sum', in the pinned program and in every row, IS THE sha256 OF THE DUMP (.gsa) THAT YtmiejokgjbnciaaProg.lean LOADS. Nothing in Lean hashes anything: it is a label: what it is worth is what the hold of that sum in a sandbox is worth. -/
noncomputable def Try.pinned : Pinned := { name := "ytmiejokgjbnciaa", sum := "8a604bdab9e2a7e04309cf6b86ef38284a3c16c0799589b154b3cdee9318c64c", checked := Try.checked }
namespace Rows
def none {H : Type} : Left H := { results := [], args := [] }

/-- 'lotdrawerkeep.ComboPascal': WHATEVER THE INPUT: true; the input reads as it did. -/
def comboPascalSpec : ChangeSpec := { name := "comboPascal", fn := fun _ => fun
  | [d1, d2, d3] => { results := [.lit (.bool true)], args := [d1, d2, d3] }
  | _ => none }
def comboPascalRow : OpenClaim := { program := "ytmiejokgjbnciaa", sum := "8a604bdab9e2a7e04309cf6b86ef38284a3c16c0799589b154b3cdee9318c64c", func := "lotdrawer/lotdrawerkeep.ComboPascal", spec := "comboPascal", unfollowed := true, recurses := true, apart := false }
def ComboPascalSaid : Prop := comboPascalRow.holds Try.pinned (OpenSpec.ofChange comboPascalSpec)

/-- ITS FALSE NEIGHBOUR: 'it returns false'. Refute it at one input. -/
def comboPascalWrong : ChangeSpec := { name := "comboPascal", fn := fun _ => fun
  | [d1, d2, d3] => { results := [.lit (.bool false)], args := [d1, d2, d3] }
  | _ => none }
def ComboPascalWrongFalsely : Prop := comboPascalRow.holds Try.pinned (OpenSpec.ofChange comboPascalWrong)

/-- 'lotdrawerkeep.ComboEach': WHATEVER THE INPUT: true; the input reads as it did. -/
def comboEachSpec : ChangeSpec := { name := "comboEach", fn := fun _ => fun
  | [d1, d2] => { results := [.lit (.bool true)], args := [d1, d2] }
  | _ => none }
def comboEachRow : OpenClaim := { program := "ytmiejokgjbnciaa", sum := "8a604bdab9e2a7e04309cf6b86ef38284a3c16c0799589b154b3cdee9318c64c", func := "lotdrawer/lotdrawerkeep.ComboEach", spec := "comboEach", recurses := true, apart := false }
def ComboEachSaid : Prop := comboEachRow.holds Try.pinned (OpenSpec.ofChange comboEachSpec)

/-- ITS FALSE NEIGHBOUR: 'it returns false'. Refute it at one input. -/
def comboEachWrong : ChangeSpec := { name := "comboEach", fn := fun _ => fun
  | [d1, d2] => { results := [.lit (.bool false)], args := [d1, d2] }
  | _ => none }
def ComboEachWrongFalsely : Prop := comboEachRow.holds Try.pinned (OpenSpec.ofChange comboEachWrong)

/-- 'lotdrawerkeep.ComboBack': WHATEVER THE INPUT: true; the input reads as it did. -/
def comboBackSpec : ChangeSpec := { name := "comboBack", fn := fun _ => fun
  | [d1, d2, d3, d4] => { results := [.lit (.bool true)], args := [d1, d2, d3, d4] }
  | _ => none }
def comboBackRow : OpenClaim := { program := "ytmiejokgjbnciaa", sum := "8a604bdab9e2a7e04309cf6b86ef38284a3c16c0799589b154b3cdee9318c64c", func := "lotdrawer/lotdrawerkeep.ComboBack", spec := "comboBack", apart := false }
def ComboBackSaid : Prop := comboBackRow.holds Try.pinned (OpenSpec.ofChange comboBackSpec)

/-- ITS FALSE NEIGHBOUR: 'it returns false'. Refute it at one input. -/
def comboBackWrong : ChangeSpec := { name := "comboBack", fn := fun _ => fun
  | [d1, d2, d3, d4] => { results := [.lit (.bool false)], args := [d1, d2, d3, d4] }
  | _ => none }
def ComboBackWrongFalsely : Prop := comboBackRow.holds Try.pinned (OpenSpec.ofChange comboBackWrong)

/-- 'lotdrawerkeep.ComboLess': WHATEVER THE INPUT: true; the input reads as it did. -/
def comboLessSpec : ChangeSpec := { name := "comboLess", fn := fun _ => fun
  | [d1, d2, d3] => { results := [.lit (.bool true)], args := [d1, d2, d3] }
  | _ => none }
def comboLessRow : OpenClaim := { program := "ytmiejokgjbnciaa", sum := "8a604bdab9e2a7e04309cf6b86ef38284a3c16c0799589b154b3cdee9318c64c", func := "lotdrawer/lotdrawerkeep.ComboLess", spec := "comboLess", apart := false }
def ComboLessSaid : Prop := comboLessRow.holds Try.pinned (OpenSpec.ofChange comboLessSpec)

/-- ITS FALSE NEIGHBOUR: 'it returns false'. Refute it at one input. -/
def comboLessWrong : ChangeSpec := { name := "comboLess", fn := fun _ => fun
  | [d1, d2, d3] => { results := [.lit (.bool false)], args := [d1, d2, d3] }
  | _ => none }
def ComboLessWrongFalsely : Prop := comboLessRow.holds Try.pinned (OpenSpec.ofChange comboLessWrong)

/- THE SECOND FORM. 'bulk': how many values and letters a reading holds, each counted each time it is reached (what is shared counts as often as it is met; a slice's spare places count too). A statement '..UptoSaid' is the law's where the arguments, and the package variables that the reading takes, are together of bulk at most 1048576: NARROWER than '..Said'. Prove '..Said' where nothing that the law and all that it calls make is longer than what came in: it says more and counts as full. Else prove '..UptoSaid'. A law counts once. -/
mutual
def uptoBulk {H : Type} : DataW H → Nat
  | .lit (.string bytes) => bytes.length + 1
  | .lit _ => 1
  | .nil => 1
  | .ptr d => uptoBulk d + 1
  | .slice elems spare => uptoBulkAll elems + uptoBulkAll spare + 1
  | .agg parts => uptoBulkAll parts + 1
  | .iface _ d => uptoBulk d + 1
  | .map entries => uptoBulkEntries entries + 1
  | .held _ => 1
def uptoBulkAll {H : Type} : List (DataW H) → Nat
  | [] => 0
  | d :: r => uptoBulk d + uptoBulkAll r
def uptoBulkEntries {H : Type} : List (Lit × DataW H) → Nat
  | [] => 0
  | x :: r => uptoBulkEntry x + uptoBulkEntries r
def uptoBulkEntry {H : Type} : Lit × DataW H → Nat
  | (.string bytes, d) => bytes.length + uptoBulk d + 1
  | (_, d) => uptoBulk d + 1
 end
def uptoSmall : (H : Type) → List (DataW H) → Bool := fun _ ds => decide (uptoBulkAll ds ≤ 1048576)
def OpenSpec.upto (s : _root_.Go.ChangeSpec) : _root_.Go.OpenSpec := { _root_.Go.OpenSpec.ofChange s with cond := some uptoSmall }

/-- 'lotdrawerkeep.ComboPascal', WHERE WHAT IT READS IS OF BULK AT MOST 1048576: true; the input reads as it did. -/
def comboPascalUptoRow : OpenClaim := { program := "ytmiejokgjbnciaa", sum := "8a604bdab9e2a7e04309cf6b86ef38284a3c16c0799589b154b3cdee9318c64c", func := "lotdrawer/lotdrawerkeep.ComboPascal", spec := "comboPascal", unfollowed := true, recurses := true, apart := false, narrowed := true }
def ComboPascalUptoSaid : Prop := comboPascalUptoRow.holds Try.pinned (OpenSpec.upto comboPascalSpec)

/-- 'lotdrawerkeep.ComboEach', WHERE WHAT IT READS IS OF BULK AT MOST 1048576: true; the input reads as it did. -/
def comboEachUptoRow : OpenClaim := { program := "ytmiejokgjbnciaa", sum := "8a604bdab9e2a7e04309cf6b86ef38284a3c16c0799589b154b3cdee9318c64c", func := "lotdrawer/lotdrawerkeep.ComboEach", spec := "comboEach", recurses := true, apart := false, narrowed := true }
def ComboEachUptoSaid : Prop := comboEachUptoRow.holds Try.pinned (OpenSpec.upto comboEachSpec)

/-- 'lotdrawerkeep.ComboBack', WHERE WHAT IT READS IS OF BULK AT MOST 1048576: true; the input reads as it did. -/
def comboBackUptoRow : OpenClaim := { program := "ytmiejokgjbnciaa", sum := "8a604bdab9e2a7e04309cf6b86ef38284a3c16c0799589b154b3cdee9318c64c", func := "lotdrawer/lotdrawerkeep.ComboBack", spec := "comboBack", apart := false, narrowed := true }
def ComboBackUptoSaid : Prop := comboBackUptoRow.holds Try.pinned (OpenSpec.upto comboBackSpec)

/-- 'lotdrawerkeep.ComboLess', WHERE WHAT IT READS IS OF BULK AT MOST 1048576: true; the input reads as it did. -/
def comboLessUptoRow : OpenClaim := { program := "ytmiejokgjbnciaa", sum := "8a604bdab9e2a7e04309cf6b86ef38284a3c16c0799589b154b3cdee9318c64c", func := "lotdrawer/lotdrawerkeep.ComboLess", spec := "comboLess", apart := false, narrowed := true }
def ComboLessUptoSaid : Prop := comboLessUptoRow.holds Try.pinned (OpenSpec.upto comboLessSpec)

end Rows
end Go.Proofs.Ytmiejokgjbnciaa
