/-
  No cell of these rows narrows 'for every input' (looked for: loops, veiled, ifaces, maps, wideKeys, modest, calm, conditions, laid).
  DERIVED. THE GIVEN ROWS OF THIS SEAT. 4 by the template 'for every input the law returns true; each argument reads behind the call as it read before'; 0 by the template 'total and deterministic' (their statements: YtompkgkfjlapjaaTotals.lean).
  GIVEN WITH THE SEED: the statements are not yours to turn. If you find one false, say at which input.
  Laid BY PROGRAM, IN A SANDBOX (cutbox-rows.mjs): the forced cells as the released guide's own fill.sh prints them over the translation aa88dfc612d2f0b9… (all of the seat's roots in one cut). By AI agents, Wed Nov 11 2026. No macro, syntax, notation, axiom, sorry.
-/
import Derived.Test.YtompkgkfjlapjaaChecked
import GoSem.Claim
import GoSem.ClaimJoined
import GoSem.ClaimMapViews
import Derived.JoinedTies
import Derived.KernelRfl
namespace Go.Proofs.Ytompkgkfjlapjaa
/- THE CELL 'sum', in the pinned program and in every row, IS THE sha256 OF THE DUMP (.gsa) THAT YtompkgkfjlapjaaProg.lean LOADS. Nothing in Lean hashes anything: it is a label: what it is worth is what the hold of that sum in a sandbox is worth. -/
noncomputable def Try.pinned : Pinned := { name := "ytompkgkfjlapjaa", sum := "aa88dfc612d2f0b9e4034e6fb23d05c9ccd7cfbda2abc4b36a6a28cdfa1a8709", checked := Try.checked }
namespace Rows
def none {H : Type} : Left H := { results := [], args := [] }

/-- 'lotdrawerkeep.QuantTrue': WHATEVER THE INPUT: true; the input reads as it did. -/
def quantTrueSpec : ChangeSpec := { name := "quantTrue", fn := fun _ => fun
  | [d1, d2] => { results := [.lit (.bool true)], args := [d1, d2] }
  | _ => none }
def quantTrueRow : OpenClaim := { program := "ytompkgkfjlapjaa", sum := "aa88dfc612d2f0b9e4034e6fb23d05c9ccd7cfbda2abc4b36a6a28cdfa1a8709", func := "lotdrawer/lotdrawerkeep.QuantTrue", spec := "quantTrue", inPlace := ["slices.overlaps[lotdrawer/api.Rank]"], apart := false }
def QuantTrueSaid : Prop := quantTrueRow.holds Try.pinned (OpenSpec.ofChange quantTrueSpec)

/-- ITS FALSE NEIGHBOUR: 'it returns false'. Refute it at one input. -/
def quantTrueWrong : ChangeSpec := { name := "quantTrue", fn := fun _ => fun
  | [d1, d2] => { results := [.lit (.bool false)], args := [d1, d2] }
  | _ => none }
def QuantTrueWrongFalsely : Prop := quantTrueRow.holds Try.pinned (OpenSpec.ofChange quantTrueWrong)

/-- 'lotdrawerkeep.QuantEnds': WHATEVER THE INPUT: true; the input reads as it did. -/
def quantEndsSpec : ChangeSpec := { name := "quantEnds", fn := fun _ => fun
  | [d1, d2] => { results := [.lit (.bool true)], args := [d1, d2] }
  | _ => none }
def quantEndsRow : OpenClaim := { program := "ytompkgkfjlapjaa", sum := "aa88dfc612d2f0b9e4034e6fb23d05c9ccd7cfbda2abc4b36a6a28cdfa1a8709", func := "lotdrawer/lotdrawerkeep.QuantEnds", spec := "quantEnds", inPlace := ["slices.overlaps[lotdrawer/api.Rank]"], apart := false }
def QuantEndsSaid : Prop := quantEndsRow.holds Try.pinned (OpenSpec.ofChange quantEndsSpec)

/-- ITS FALSE NEIGHBOUR: 'it returns false'. Refute it at one input. -/
def quantEndsWrong : ChangeSpec := { name := "quantEnds", fn := fun _ => fun
  | [d1, d2] => { results := [.lit (.bool false)], args := [d1, d2] }
  | _ => none }
def QuantEndsWrongFalsely : Prop := quantEndsRow.holds Try.pinned (OpenSpec.ofChange quantEndsWrong)

/-- 'lotdrawerkeep.QuantNear': WHATEVER THE INPUT: true; the input reads as it did. -/
def quantNearSpec : ChangeSpec := { name := "quantNear", fn := fun _ => fun
  | [d1, d2, d3] => { results := [.lit (.bool true)], args := [d1, d2, d3] }
  | _ => none }
def quantNearRow : OpenClaim := { program := "ytompkgkfjlapjaa", sum := "aa88dfc612d2f0b9e4034e6fb23d05c9ccd7cfbda2abc4b36a6a28cdfa1a8709", func := "lotdrawer/lotdrawerkeep.QuantNear", spec := "quantNear", inPlace := ["slices.overlaps[lotdrawer/api.Rank]"], unfollowed := true, recurses := true, apart := false }
def QuantNearSaid : Prop := quantNearRow.holds Try.pinned (OpenSpec.ofChange quantNearSpec)

/-- ITS FALSE NEIGHBOUR: 'it returns false'. Refute it at one input. -/
def quantNearWrong : ChangeSpec := { name := "quantNear", fn := fun _ => fun
  | [d1, d2, d3] => { results := [.lit (.bool false)], args := [d1, d2, d3] }
  | _ => none }
def QuantNearWrongFalsely : Prop := quantNearRow.holds Try.pinned (OpenSpec.ofChange quantNearWrong)

/-- 'lotdrawerkeep.QuantFew': WHATEVER THE INPUT: true; the input reads as it did. -/
def quantFewSpec : ChangeSpec := { name := "quantFew", fn := fun _ => fun
  | [d1, d2] => { results := [.lit (.bool true)], args := [d1, d2] }
  | _ => none }
def quantFewRow : OpenClaim := { program := "ytompkgkfjlapjaa", sum := "aa88dfc612d2f0b9e4034e6fb23d05c9ccd7cfbda2abc4b36a6a28cdfa1a8709", func := "lotdrawer/lotdrawerkeep.QuantFew", spec := "quantFew", inPlace := ["slices.overlaps[lotdrawer/api.Rank]"], unfollowed := true, recurses := true, apart := false }
def QuantFewSaid : Prop := quantFewRow.holds Try.pinned (OpenSpec.ofChange quantFewSpec)

/-- ITS FALSE NEIGHBOUR: 'it returns false'. Refute it at one input. -/
def quantFewWrong : ChangeSpec := { name := "quantFew", fn := fun _ => fun
  | [d1, d2] => { results := [.lit (.bool false)], args := [d1, d2] }
  | _ => none }
def QuantFewWrongFalsely : Prop := quantFewRow.holds Try.pinned (OpenSpec.ofChange quantFewWrong)

/- THE SECOND FORM. 'bulk': how many values and letters a reading holds, each counted each time it is reached (what is shared counts as often as it is met; a slice's spare places count too). A statement '..UptoSaid' is the law's where the arguments, and the package variables that the reading takes, are together of bulk at most 1048576: NARROWER than '..Said'. Prove '..Said' where nothing that the law and all that it calls make is longer than what came in: it says more and counts as full. Else prove '..UptoSaid'. A law counts once. -/
mutual
def uptoBulk {H : Type} : DataW H → Nat
  | .lit (.string bytes) => bytes.length + 1
  | .lit _ => 1
  | .nil => 1
  | .ptr d => uptoBulk d + 1
  | .slice elems spare => uptoBulkAll elems + uptoBulkAll spare + 1
  | .agg parts => uptoBulkAll parts + 1
  | .iface _ d => uptoBulk d + 1
  | .map entries => uptoBulkEntries entries + 1
  | .held _ => 1
def uptoBulkAll {H : Type} : List (DataW H) → Nat
  | [] => 0
  | d :: r => uptoBulk d + uptoBulkAll r
def uptoBulkEntries {H : Type} : List (Lit × DataW H) → Nat
  | [] => 0
  | x :: r => uptoBulkEntry x + uptoBulkEntries r
def uptoBulkEntry {H : Type} : Lit × DataW H → Nat
  | (.string bytes, d) => bytes.length + uptoBulk d + 1
  | (_, d) => uptoBulk d + 1
 end
def uptoSmall : (H : Type) → List (DataW H) → Bool := fun _ ds => decide (uptoBulkAll ds ≤ 1048576)
def OpenSpec.upto (s : _root_.Go.ChangeSpec) : _root_.Go.OpenSpec := { _root_.Go.OpenSpec.ofChange s with cond := some uptoSmall }

/-- 'lotdrawerkeep.QuantTrue', WHERE WHAT IT READS IS OF BULK AT MOST 1048576: true; the input reads as it did. -/
def quantTrueUptoRow : OpenClaim := { program := "ytompkgkfjlapjaa", sum := "aa88dfc612d2f0b9e4034e6fb23d05c9ccd7cfbda2abc4b36a6a28cdfa1a8709", func := "lotdrawer/lotdrawerkeep.QuantTrue", spec := "quantTrue", inPlace := ["slices.overlaps[lotdrawer/api.Rank]"], apart := false, narrowed := true }
def QuantTrueUptoSaid : Prop := quantTrueUptoRow.holds Try.pinned (OpenSpec.upto quantTrueSpec)

/-- 'lotdrawerkeep.QuantEnds', WHERE WHAT IT READS IS OF BULK AT MOST 1048576: true; the input reads as it did. -/
def quantEndsUptoRow : OpenClaim := { program := "ytompkgkfjlapjaa", sum := "aa88dfc612d2f0b9e4034e6fb23d05c9ccd7cfbda2abc4b36a6a28cdfa1a8709", func := "lotdrawer/lotdrawerkeep.QuantEnds", spec := "quantEnds", inPlace := ["slices.overlaps[lotdrawer/api.Rank]"], apart := false, narrowed := true }
def QuantEndsUptoSaid : Prop := quantEndsUptoRow.holds Try.pinned (OpenSpec.upto quantEndsSpec)

/-- 'lotdrawerkeep.QuantNear', WHERE WHAT IT READS IS OF BULK AT MOST 1048576: true; the input reads as it did. -/
def quantNearUptoRow : OpenClaim := { program := "ytompkgkfjlapjaa", sum := "aa88dfc612d2f0b9e4034e6fb23d05c9ccd7cfbda2abc4b36a6a28cdfa1a8709", func := "lotdrawer/lotdrawerkeep.QuantNear", spec := "quantNear", inPlace := ["slices.overlaps[lotdrawer/api.Rank]"], unfollowed := true, recurses := true, apart := false, narrowed := true }
def QuantNearUptoSaid : Prop := quantNearUptoRow.holds Try.pinned (OpenSpec.upto quantNearSpec)

/-- 'lotdrawerkeep.QuantFew', WHERE WHAT IT READS IS OF BULK AT MOST 1048576: true; the input reads as it did. -/
def quantFewUptoRow : OpenClaim := { program := "ytompkgkfjlapjaa", sum := "aa88dfc612d2f0b9e4034e6fb23d05c9ccd7cfbda2abc4b36a6a28cdfa1a8709", func := "lotdrawer/lotdrawerkeep.QuantFew", spec := "quantFew", inPlace := ["slices.overlaps[lotdrawer/api.Rank]"], unfollowed := true, recurses := true, apart := false, narrowed := true }
def QuantFewUptoSaid : Prop := quantFewUptoRow.holds Try.pinned (OpenSpec.upto quantFewSpec)

end Rows
end Go.Proofs.Ytompkgkfjlapjaa
