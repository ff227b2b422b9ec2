/-
  No cell of these rows narrows 'for every input' (looked for: loops, veiled, ifaces, maps, wideKeys, modest, calm, conditions, laid).
  DERIVED. THE GIVEN ROWS OF THIS SEAT. 5 by the template 'for every input the law returns true; each argument reads behind the call as it read before'; 0 by the template 'total and deterministic' (their statements: YticodfdonpookaaTotals.lean).
  GIVEN WITH THE SEED: the statements are not yours to turn. If you find one false, say at which input.
  Laid BY PROGRAM, IN A SANDBOX (cutbox-rows.mjs): the forced cells as the released guide's own fill.sh prints them over the translation 660bcecbe2c434cc… (all of the seat's roots in one cut). By AI agents, Wed Nov 11 2026. No macro, syntax, notation, axiom, sorry.
-/
import Derived.Test.YticodfdonpookaaChecked
import GoSem.Claim
import GoSem.ClaimJoined
import GoSem.ClaimMapViews
import Derived.JoinedTies
import Derived.KernelRfl
namespace Go.Proofs.Yticodfdonpookaa
/- THE CELL 'sum', in the pinned program and in every row, IS THE sha256 OF THE DUMP (.gsa) THAT YticodfdonpookaaProg.lean LOADS. Nothing in Lean hashes anything: it is a label: what it is worth is what the hold of that sum in a sandbox is worth. -/
noncomputable def Try.pinned : Pinned := { name := "yticodfdonpookaa", sum := "660bcecbe2c434cc4ea5f8f95e4da51088ebc903c8c902c861cfee69ba91ff6d", checked := Try.checked }
namespace Rows
def none {H : Type} : Left H := { results := [], args := [] }

/-- 'lotdrawerkeep.BottomParts': WHATEVER THE INPUT: true; the input reads as it did. -/
def bottomPartsSpec : ChangeSpec := { name := "bottomParts", fn := fun _ => fun
  | [d1, d2, d3, d4, d5] => { results := [.lit (.bool true)], args := [d1, d2, d3, d4, d5] }
  | _ => none }
def bottomPartsRow : OpenClaim := { program := "yticodfdonpookaa", sum := "660bcecbe2c434cc4ea5f8f95e4da51088ebc903c8c902c861cfee69ba91ff6d", func := "lotdrawer/lotdrawerkeep.BottomParts", spec := "bottomParts", unfollowed := true, recurses := true, apart := false }
def BottomPartsSaid : Prop := bottomPartsRow.holds Try.pinned (OpenSpec.ofChange bottomPartsSpec)

/-- ITS FALSE NEIGHBOUR: 'it returns false'. Refute it at one input. -/
def bottomPartsWrong : ChangeSpec := { name := "bottomParts", fn := fun _ => fun
  | [d1, d2, d3, d4, d5] => { results := [.lit (.bool false)], args := [d1, d2, d3, d4, d5] }
  | _ => none }
def BottomPartsWrongFalsely : Prop := bottomPartsRow.holds Try.pinned (OpenSpec.ofChange bottomPartsWrong)

/-- 'lotdrawerkeep.BottomLess': WHATEVER THE INPUT: true; the input reads as it did. -/
def bottomLessSpec : ChangeSpec := { name := "bottomLess", fn := fun _ => fun
  | [d1, d2, d3, d4] => { results := [.lit (.bool true)], args := [d1, d2, d3, d4] }
  | _ => none }
def bottomLessRow : OpenClaim := { program := "yticodfdonpookaa", sum := "660bcecbe2c434cc4ea5f8f95e4da51088ebc903c8c902c861cfee69ba91ff6d", func := "lotdrawer/lotdrawerkeep.BottomLess", spec := "bottomLess", unfollowed := true, recurses := true, apart := false }
def BottomLessSaid : Prop := bottomLessRow.holds Try.pinned (OpenSpec.ofChange bottomLessSpec)

/-- ITS FALSE NEIGHBOUR: 'it returns false'. Refute it at one input. -/
def bottomLessWrong : ChangeSpec := { name := "bottomLess", fn := fun _ => fun
  | [d1, d2, d3, d4] => { results := [.lit (.bool false)], args := [d1, d2, d3, d4] }
  | _ => none }
def BottomLessWrongFalsely : Prop := bottomLessRow.holds Try.pinned (OpenSpec.ofChange bottomLessWrong)

/-- 'lotdrawerkeep.BottomOrder': WHATEVER THE INPUT: true; the input reads as it did. -/
def bottomOrderSpec : ChangeSpec := { name := "bottomOrder", fn := fun _ => fun
  | [d1, d2, d3, d4] => { results := [.lit (.bool true)], args := [d1, d2, d3, d4] }
  | _ => none }
def bottomOrderRow : OpenClaim := { program := "yticodfdonpookaa", sum := "660bcecbe2c434cc4ea5f8f95e4da51088ebc903c8c902c861cfee69ba91ff6d", func := "lotdrawer/lotdrawerkeep.BottomOrder", spec := "bottomOrder", unfollowed := true, recurses := true, apart := false }
def BottomOrderSaid : Prop := bottomOrderRow.holds Try.pinned (OpenSpec.ofChange bottomOrderSpec)

/-- ITS FALSE NEIGHBOUR: 'it returns false'. Refute it at one input. -/
def bottomOrderWrong : ChangeSpec := { name := "bottomOrder", fn := fun _ => fun
  | [d1, d2, d3, d4] => { results := [.lit (.bool false)], args := [d1, d2, d3, d4] }
  | _ => none }
def BottomOrderWrongFalsely : Prop := bottomOrderRow.holds Try.pinned (OpenSpec.ofChange bottomOrderWrong)

/-- 'lotdrawerkeep.BottomBack': WHATEVER THE INPUT: true; the input reads as it did. -/
def bottomBackSpec : ChangeSpec := { name := "bottomBack", fn := fun _ => fun
  | [d1, d2] => { results := [.lit (.bool true)], args := [d1, d2] }
  | _ => none }
def bottomBackRow : OpenClaim := { program := "yticodfdonpookaa", sum := "660bcecbe2c434cc4ea5f8f95e4da51088ebc903c8c902c861cfee69ba91ff6d", func := "lotdrawer/lotdrawerkeep.BottomBack", spec := "bottomBack", unfollowed := true, recurses := true, apart := false }
def BottomBackSaid : Prop := bottomBackRow.holds Try.pinned (OpenSpec.ofChange bottomBackSpec)

/-- ITS FALSE NEIGHBOUR: 'it returns false'. Refute it at one input. -/
def bottomBackWrong : ChangeSpec := { name := "bottomBack", fn := fun _ => fun
  | [d1, d2] => { results := [.lit (.bool false)], args := [d1, d2] }
  | _ => none }
def BottomBackWrongFalsely : Prop := bottomBackRow.holds Try.pinned (OpenSpec.ofChange bottomBackWrong)

/-- 'lotdrawerkeep.BottomCommon': WHATEVER THE INPUT: true; the input reads as it did. -/
def bottomCommonSpec : ChangeSpec := { name := "bottomCommon", fn := fun _ => fun
  | [d1, d2, d3, d4] => { results := [.lit (.bool true)], args := [d1, d2, d3, d4] }
  | _ => none }
def bottomCommonRow : OpenClaim := { program := "yticodfdonpookaa", sum := "660bcecbe2c434cc4ea5f8f95e4da51088ebc903c8c902c861cfee69ba91ff6d", func := "lotdrawer/lotdrawerkeep.BottomCommon", spec := "bottomCommon", unfollowed := true, recurses := true, apart := false }
def BottomCommonSaid : Prop := bottomCommonRow.holds Try.pinned (OpenSpec.ofChange bottomCommonSpec)

/-- ITS FALSE NEIGHBOUR: 'it returns false'. Refute it at one input. -/
def bottomCommonWrong : ChangeSpec := { name := "bottomCommon", fn := fun _ => fun
  | [d1, d2, d3, d4] => { results := [.lit (.bool false)], args := [d1, d2, d3, d4] }
  | _ => none }
def BottomCommonWrongFalsely : Prop := bottomCommonRow.holds Try.pinned (OpenSpec.ofChange bottomCommonWrong)

/- THE SECOND FORM. 'bulk': how many values and letters a reading holds, each counted each time it is reached (what is shared counts as often as it is met; a slice's spare places count too). A statement '..UptoSaid' is the law's where the arguments, and the package variables that the reading takes, are together of bulk at most 1048576: NARROWER than '..Said'. Prove '..Said' where nothing that the law and all that it calls make is longer than what came in: it says more and counts as full. Else prove '..UptoSaid'. A law counts once. -/
mutual
def uptoBulk {H : Type} : DataW H → Nat
  | .lit (.string bytes) => bytes.length + 1
  | .lit _ => 1
  | .nil => 1
  | .ptr d => uptoBulk d + 1
  | .slice elems spare => uptoBulkAll elems + uptoBulkAll spare + 1
  | .agg parts => uptoBulkAll parts + 1
  | .iface _ d => uptoBulk d + 1
  | .map entries => uptoBulkEntries entries + 1
  | .held _ => 1
def uptoBulkAll {H : Type} : List (DataW H) → Nat
  | [] => 0
  | d :: r => uptoBulk d + uptoBulkAll r
def uptoBulkEntries {H : Type} : List (Lit × DataW H) → Nat
  | [] => 0
  | x :: r => uptoBulkEntry x + uptoBulkEntries r
def uptoBulkEntry {H : Type} : Lit × DataW H → Nat
  | (.string bytes, d) => bytes.length + uptoBulk d + 1
  | (_, d) => uptoBulk d + 1
 end
def uptoSmall : (H : Type) → List (DataW H) → Bool := fun _ ds => decide (uptoBulkAll ds ≤ 1048576)
def OpenSpec.upto (s : _root_.Go.ChangeSpec) : _root_.Go.OpenSpec := { _root_.Go.OpenSpec.ofChange s with cond := some uptoSmall }

/-- 'lotdrawerkeep.BottomParts', WHERE WHAT IT READS IS OF BULK AT MOST 1048576: true; the input reads as it did. -/
def bottomPartsUptoRow : OpenClaim := { program := "yticodfdonpookaa", sum := "660bcecbe2c434cc4ea5f8f95e4da51088ebc903c8c902c861cfee69ba91ff6d", func := "lotdrawer/lotdrawerkeep.BottomParts", spec := "bottomParts", unfollowed := true, recurses := true, apart := false, narrowed := true }
def BottomPartsUptoSaid : Prop := bottomPartsUptoRow.holds Try.pinned (OpenSpec.upto bottomPartsSpec)

/-- 'lotdrawerkeep.BottomLess', WHERE WHAT IT READS IS OF BULK AT MOST 1048576: true; the input reads as it did. -/
def bottomLessUptoRow : OpenClaim := { program := "yticodfdonpookaa", sum := "660bcecbe2c434cc4ea5f8f95e4da51088ebc903c8c902c861cfee69ba91ff6d", func := "lotdrawer/lotdrawerkeep.BottomLess", spec := "bottomLess", unfollowed := true, recurses := true, apart := false, narrowed := true }
def BottomLessUptoSaid : Prop := bottomLessUptoRow.holds Try.pinned (OpenSpec.upto bottomLessSpec)

/-- 'lotdrawerkeep.BottomOrder', WHERE WHAT IT READS IS OF BULK AT MOST 1048576: true; the input reads as it did. -/
def bottomOrderUptoRow : OpenClaim := { program := "yticodfdonpookaa", sum := "660bcecbe2c434cc4ea5f8f95e4da51088ebc903c8c902c861cfee69ba91ff6d", func := "lotdrawer/lotdrawerkeep.BottomOrder", spec := "bottomOrder", unfollowed := true, recurses := true, apart := false, narrowed := true }
def BottomOrderUptoSaid : Prop := bottomOrderUptoRow.holds Try.pinned (OpenSpec.upto bottomOrderSpec)

/-- 'lotdrawerkeep.BottomBack', WHERE WHAT IT READS IS OF BULK AT MOST 1048576: true; the input reads as it did. -/
def bottomBackUptoRow : OpenClaim := { program := "yticodfdonpookaa", sum := "660bcecbe2c434cc4ea5f8f95e4da51088ebc903c8c902c861cfee69ba91ff6d", func := "lotdrawer/lotdrawerkeep.BottomBack", spec := "bottomBack", unfollowed := true, recurses := true, apart := false, narrowed := true }
def BottomBackUptoSaid : Prop := bottomBackUptoRow.holds Try.pinned (OpenSpec.upto bottomBackSpec)

/-- 'lotdrawerkeep.BottomCommon', WHERE WHAT IT READS IS OF BULK AT MOST 1048576: true; the input reads as it did. -/
def bottomCommonUptoRow : OpenClaim := { program := "yticodfdonpookaa", sum := "660bcecbe2c434cc4ea5f8f95e4da51088ebc903c8c902c861cfee69ba91ff6d", func := "lotdrawer/lotdrawerkeep.BottomCommon", spec := "bottomCommon", unfollowed := true, recurses := true, apart := false, narrowed := true }
def BottomCommonUptoSaid : Prop := bottomCommonUptoRow.holds Try.pinned (OpenSpec.upto bottomCommonSpec)

end Rows
end Go.Proofs.Yticodfdonpookaa
