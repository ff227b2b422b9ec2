/-
  No cell of these rows narrows 'for every input' (looked for: loops, veiled, ifaces, maps, wideKeys, modest, calm, conditions, laid).
  DERIVED. THE GIVEN ROWS OF THIS SEAT. 5 by the template 'for every input the law returns true; each argument reads behind the call as it read before'; 0 by the template 'total and deterministic' (their statements: YtbdlfiabijajfaaTotals.lean).
  GIVEN WITH THE SEED: the statements are not yours to turn. If you find one false, say at which input.
  Laid BY PROGRAM, IN A SANDBOX (cutbox-rows.mjs): the forced cells as the released guide's own fill.sh prints them over the translation cd41d1041723a066… (all of the seat's roots in one cut). By AI agents, Wed Nov 11 2026. No macro, syntax, notation, axiom, sorry.
-/
import Derived.Test.YtbdlfiabijajfaaChecked
import GoSem.Claim
import GoSem.ClaimJoined
import GoSem.ClaimMapViews
import Derived.JoinedTies
import Derived.KernelRfl
namespace Go.Proofs.Ytbdlfiabijajfaa
/- THE CELL 'sum', in the pinned program and in every row, IS THE sha256 OF THE DUMP (.gsa) THAT YtbdlfiabijajfaaProg.lean LOADS. Nothing in Lean hashes anything: it is a label: what it is worth is what the hold of that sum in a sandbox is worth. -/
noncomputable def Try.pinned : Pinned := { name := "ytbdlfiabijajfaa", sum := "cd41d1041723a0662bc44e7de1bbc482099ea2f05aa19f18cc9f912ee3c20fa8", checked := Try.checked }
namespace Rows
def none {H : Type} : Left H := { results := [], args := [] }

/-- 'lotdrawerkeep.WalkReflect': WHATEVER THE INPUT: true; the input reads as it did. -/
def walkReflectSpec : ChangeSpec := { name := "walkReflect", fn := fun _ => fun
  | [d1, d2, d3] => { results := [.lit (.bool true)], args := [d1, d2, d3] }
  | _ => none }
def walkReflectRow : OpenClaim := { program := "ytbdlfiabijajfaa", sum := "cd41d1041723a0662bc44e7de1bbc482099ea2f05aa19f18cc9f912ee3c20fa8", func := "lotdrawer/lotdrawerkeep.WalkReflect", spec := "walkReflect", apart := false }
def WalkReflectSaid : Prop := walkReflectRow.holds Try.pinned (OpenSpec.ofChange walkReflectSpec)

/-- ITS FALSE NEIGHBOUR: 'it returns false'. Refute it at one input. -/
def walkReflectWrong : ChangeSpec := { name := "walkReflect", fn := fun _ => fun
  | [d1, d2, d3] => { results := [.lit (.bool false)], args := [d1, d2, d3] }
  | _ => none }
def WalkReflectWrongFalsely : Prop := walkReflectRow.holds Try.pinned (OpenSpec.ofChange walkReflectWrong)

/-- 'lotdrawerkeep.WalkBallot': WHATEVER THE INPUT: true; the input reads as it did. -/
def walkBallotSpec : ChangeSpec := { name := "walkBallot", fn := fun _ => fun
  | [d1, d2] => { results := [.lit (.bool true)], args := [d1, d2] }
  | _ => none }
def walkBallotRow : OpenClaim := { program := "ytbdlfiabijajfaa", sum := "cd41d1041723a0662bc44e7de1bbc482099ea2f05aa19f18cc9f912ee3c20fa8", func := "lotdrawer/lotdrawerkeep.WalkBallot", spec := "walkBallot", apart := false }
def WalkBallotSaid : Prop := walkBallotRow.holds Try.pinned (OpenSpec.ofChange walkBallotSpec)

/-- ITS FALSE NEIGHBOUR: 'it returns false'. Refute it at one input. -/
def walkBallotWrong : ChangeSpec := { name := "walkBallot", fn := fun _ => fun
  | [d1, d2] => { results := [.lit (.bool false)], args := [d1, d2] }
  | _ => none }
def WalkBallotWrongFalsely : Prop := walkBallotRow.holds Try.pinned (OpenSpec.ofChange walkBallotWrong)

/-- 'lotdrawerkeep.WalkCatalan': WHATEVER THE INPUT: true; the input reads as it did. -/
def walkCatalanSpec : ChangeSpec := { name := "walkCatalan", fn := fun _ => fun
  | [d] => { results := [.lit (.bool true)], args := [d] }
  | _ => none }
def walkCatalanRow : OpenClaim := { program := "ytbdlfiabijajfaa", sum := "cd41d1041723a0662bc44e7de1bbc482099ea2f05aa19f18cc9f912ee3c20fa8", func := "lotdrawer/lotdrawerkeep.WalkCatalan", spec := "walkCatalan", apart := false }
def WalkCatalanSaid : Prop := walkCatalanRow.holds Try.pinned (OpenSpec.ofChange walkCatalanSpec)

/-- ITS FALSE NEIGHBOUR: 'it returns false'. Refute it at one input. -/
def walkCatalanWrong : ChangeSpec := { name := "walkCatalan", fn := fun _ => fun
  | [d] => { results := [.lit (.bool false)], args := [d] }
  | _ => none }
def WalkCatalanWrongFalsely : Prop := walkCatalanRow.holds Try.pinned (OpenSpec.ofChange walkCatalanWrong)

/-- 'lotdrawerkeep.WalkBack': WHATEVER THE INPUT: true; the input reads as it did. -/
def walkBackSpec : ChangeSpec := { name := "walkBack", fn := fun _ => fun
  | [d] => { results := [.lit (.bool true)], args := [d] }
  | _ => none }
def walkBackRow : OpenClaim := { program := "ytbdlfiabijajfaa", sum := "cd41d1041723a0662bc44e7de1bbc482099ea2f05aa19f18cc9f912ee3c20fa8", func := "lotdrawer/lotdrawerkeep.WalkBack", spec := "walkBack", apart := false }
def WalkBackSaid : Prop := walkBackRow.holds Try.pinned (OpenSpec.ofChange walkBackSpec)

/-- ITS FALSE NEIGHBOUR: 'it returns false'. Refute it at one input. -/
def walkBackWrong : ChangeSpec := { name := "walkBack", fn := fun _ => fun
  | [d] => { results := [.lit (.bool false)], args := [d] }
  | _ => none }
def WalkBackWrongFalsely : Prop := walkBackRow.holds Try.pinned (OpenSpec.ofChange walkBackWrong)

/-- 'lotdrawerkeep.WalkParts': WHATEVER THE INPUT: true; the input reads as it did. -/
def walkPartsSpec : ChangeSpec := { name := "walkParts", fn := fun _ => fun
  | [d1, d2, d3, d4, d5] => { results := [.lit (.bool true)], args := [d1, d2, d3, d4, d5] }
  | _ => none }
def walkPartsRow : OpenClaim := { program := "ytbdlfiabijajfaa", sum := "cd41d1041723a0662bc44e7de1bbc482099ea2f05aa19f18cc9f912ee3c20fa8", func := "lotdrawer/lotdrawerkeep.WalkParts", spec := "walkParts", apart := false }
def WalkPartsSaid : Prop := walkPartsRow.holds Try.pinned (OpenSpec.ofChange walkPartsSpec)

/-- ITS FALSE NEIGHBOUR: 'it returns false'. Refute it at one input. -/
def walkPartsWrong : ChangeSpec := { name := "walkParts", fn := fun _ => fun
  | [d1, d2, d3, d4, d5] => { results := [.lit (.bool false)], args := [d1, d2, d3, d4, d5] }
  | _ => none }
def WalkPartsWrongFalsely : Prop := walkPartsRow.holds Try.pinned (OpenSpec.ofChange walkPartsWrong)

/- THE SECOND FORM. 'bulk': how many values and letters a reading holds, each counted each time it is reached (what is shared counts as often as it is met; a slice's spare places count too). A statement '..UptoSaid' is the law's where the arguments, and the package variables that the reading takes, are together of bulk at most 1048576: NARROWER than '..Said'. Prove '..Said' where nothing that the law and all that it calls make is longer than what came in: it says more and counts as full. Else prove '..UptoSaid'. A law counts once. -/
mutual
def uptoBulk {H : Type} : DataW H → Nat
  | .lit (.string bytes) => bytes.length + 1
  | .lit _ => 1
  | .nil => 1
  | .ptr d => uptoBulk d + 1
  | .slice elems spare => uptoBulkAll elems + uptoBulkAll spare + 1
  | .agg parts => uptoBulkAll parts + 1
  | .iface _ d => uptoBulk d + 1
  | .map entries => uptoBulkEntries entries + 1
  | .held _ => 1
def uptoBulkAll {H : Type} : List (DataW H) → Nat
  | [] => 0
  | d :: r => uptoBulk d + uptoBulkAll r
def uptoBulkEntries {H : Type} : List (Lit × DataW H) → Nat
  | [] => 0
  | x :: r => uptoBulkEntry x + uptoBulkEntries r
def uptoBulkEntry {H : Type} : Lit × DataW H → Nat
  | (.string bytes, d) => bytes.length + uptoBulk d + 1
  | (_, d) => uptoBulk d + 1
 end
def uptoSmall : (H : Type) → List (DataW H) → Bool := fun _ ds => decide (uptoBulkAll ds ≤ 1048576)
def OpenSpec.upto (s : _root_.Go.ChangeSpec) : _root_.Go.OpenSpec := { _root_.Go.OpenSpec.ofChange s with cond := some uptoSmall }

/-- 'lotdrawerkeep.WalkReflect', WHERE WHAT IT READS IS OF BULK AT MOST 1048576: true; the input reads as it did. -/
def walkReflectUptoRow : OpenClaim := { program := "ytbdlfiabijajfaa", sum := "cd41d1041723a0662bc44e7de1bbc482099ea2f05aa19f18cc9f912ee3c20fa8", func := "lotdrawer/lotdrawerkeep.WalkReflect", spec := "walkReflect", apart := false, narrowed := true }
def WalkReflectUptoSaid : Prop := walkReflectUptoRow.holds Try.pinned (OpenSpec.upto walkReflectSpec)

/-- 'lotdrawerkeep.WalkBallot', WHERE WHAT IT READS IS OF BULK AT MOST 1048576: true; the input reads as it did. -/
def walkBallotUptoRow : OpenClaim := { program := "ytbdlfiabijajfaa", sum := "cd41d1041723a0662bc44e7de1bbc482099ea2f05aa19f18cc9f912ee3c20fa8", func := "lotdrawer/lotdrawerkeep.WalkBallot", spec := "walkBallot", apart := false, narrowed := true }
def WalkBallotUptoSaid : Prop := walkBallotUptoRow.holds Try.pinned (OpenSpec.upto walkBallotSpec)

/-- 'lotdrawerkeep.WalkCatalan', WHERE WHAT IT READS IS OF BULK AT MOST 1048576: true; the input reads as it did. -/
def walkCatalanUptoRow : OpenClaim := { program := "ytbdlfiabijajfaa", sum := "cd41d1041723a0662bc44e7de1bbc482099ea2f05aa19f18cc9f912ee3c20fa8", func := "lotdrawer/lotdrawerkeep.WalkCatalan", spec := "walkCatalan", apart := false, narrowed := true }
def WalkCatalanUptoSaid : Prop := walkCatalanUptoRow.holds Try.pinned (OpenSpec.upto walkCatalanSpec)

/-- 'lotdrawerkeep.WalkBack', WHERE WHAT IT READS IS OF BULK AT MOST 1048576: true; the input reads as it did. -/
def walkBackUptoRow : OpenClaim := { program := "ytbdlfiabijajfaa", sum := "cd41d1041723a0662bc44e7de1bbc482099ea2f05aa19f18cc9f912ee3c20fa8", func := "lotdrawer/lotdrawerkeep.WalkBack", spec := "walkBack", apart := false, narrowed := true }
def WalkBackUptoSaid : Prop := walkBackUptoRow.holds Try.pinned (OpenSpec.upto walkBackSpec)

/-- 'lotdrawerkeep.WalkParts', WHERE WHAT IT READS IS OF BULK AT MOST 1048576: true; the input reads as it did. -/
def walkPartsUptoRow : OpenClaim := { program := "ytbdlfiabijajfaa", sum := "cd41d1041723a0662bc44e7de1bbc482099ea2f05aa19f18cc9f912ee3c20fa8", func := "lotdrawer/lotdrawerkeep.WalkParts", spec := "walkParts", apart := false, narrowed := true }
def WalkPartsUptoSaid : Prop := walkPartsUptoRow.holds Try.pinned (OpenSpec.upto walkPartsSpec)

end Rows
end Go.Proofs.Ytbdlfiabijajfaa
