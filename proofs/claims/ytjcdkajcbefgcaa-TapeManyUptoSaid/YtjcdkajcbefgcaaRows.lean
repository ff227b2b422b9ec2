/-
  No cell of these rows narrows 'for every input' (looked for: loops, veiled, ifaces, maps, wideKeys, modest, calm, conditions, laid).
  DERIVED. THE GIVEN ROWS OF THIS SEAT. 4 by the template 'for every input the law returns true; each argument reads behind the call as it read before'; 0 by the template 'total and deterministic' (their statements: YtjcdkajcbefgcaaTotals.lean).
  GIVEN WITH THE SEED: the statements are not yours to turn. If you find one false, say at which input.
  Laid BY PROGRAM, IN A SANDBOX (cutbox-rows.mjs): the forced cells as the released guide's own fill.sh prints them over the translation 98f223c7f01f4e7a… (all of the seat's roots in one cut). By AI agents, Wed Nov 11 2026. No macro, syntax, notation, axiom, sorry.
-/
import Derived.Test.YtjcdkajcbefgcaaChecked
import GoSem.Claim
import GoSem.ClaimJoined
import GoSem.ClaimMapViews
import Derived.JoinedTies
import Derived.KernelRfl
namespace Go.Proofs.Ytjcdkajcbefgcaa
/- THE CELL 'sum', in the pinned program and in every row, IS THE sha256 OF THE DUMP (.gsa) THAT YtjcdkajcbefgcaaProg.lean LOADS. Nothing in Lean hashes anything: it is a label: what it is worth is what the hold of that sum in a sandbox is worth. -/
noncomputable def Try.pinned : Pinned := { name := "ytjcdkajcbefgcaa", sum := "98f223c7f01f4e7a9e903a3774a4bbe4329f47d3de4d81a3a187bf0625f6f5e3", checked := Try.checked }
namespace Rows
def none {H : Type} : Left H := { results := [], args := [] }

/-- 'lotdrawerkeep.TapeEven': WHATEVER THE INPUT: true; the input reads as it did. -/
def tapeEvenSpec : ChangeSpec := { name := "tapeEven", fn := fun _ => fun
  | [d] => { results := [.lit (.bool true)], args := [d] }
  | _ => none }
def tapeEvenRow : OpenClaim := { program := "ytjcdkajcbefgcaa", sum := "98f223c7f01f4e7a9e903a3774a4bbe4329f47d3de4d81a3a187bf0625f6f5e3", func := "lotdrawer/lotdrawerkeep.TapeEven", spec := "tapeEven", apart := false }
def TapeEvenSaid : Prop := tapeEvenRow.holds Try.pinned (OpenSpec.ofChange tapeEvenSpec)

/-- ITS FALSE NEIGHBOUR: 'it returns false'. Refute it at one input. -/
def tapeEvenWrong : ChangeSpec := { name := "tapeEven", fn := fun _ => fun
  | [d] => { results := [.lit (.bool false)], args := [d] }
  | _ => none }
def TapeEvenWrongFalsely : Prop := tapeEvenRow.holds Try.pinned (OpenSpec.ofChange tapeEvenWrong)

/-- 'lotdrawerkeep.TapeFair': WHATEVER THE INPUT: true; the input reads as it did. -/
def tapeFairSpec : ChangeSpec := { name := "tapeFair", fn := fun _ => fun
  | [d1, d2] => { results := [.lit (.bool true)], args := [d1, d2] }
  | _ => none }
def tapeFairRow : OpenClaim := { program := "ytjcdkajcbefgcaa", sum := "98f223c7f01f4e7a9e903a3774a4bbe4329f47d3de4d81a3a187bf0625f6f5e3", func := "lotdrawer/lotdrawerkeep.TapeFair", spec := "tapeFair", apart := false }
def TapeFairSaid : Prop := tapeFairRow.holds Try.pinned (OpenSpec.ofChange tapeFairSpec)

/-- ITS FALSE NEIGHBOUR: 'it returns false'. Refute it at one input. -/
def tapeFairWrong : ChangeSpec := { name := "tapeFair", fn := fun _ => fun
  | [d1, d2] => { results := [.lit (.bool false)], args := [d1, d2] }
  | _ => none }
def TapeFairWrongFalsely : Prop := tapeFairRow.holds Try.pinned (OpenSpec.ofChange tapeFairWrong)

/-- 'lotdrawerkeep.TapeUsed': WHATEVER THE INPUT: true; the input reads as it did. -/
def tapeUsedSpec : ChangeSpec := { name := "tapeUsed", fn := fun _ => fun
  | [d1, d2, d3] => { results := [.lit (.bool true)], args := [d1, d2, d3] }
  | _ => none }
def tapeUsedRow : OpenClaim := { program := "ytjcdkajcbefgcaa", sum := "98f223c7f01f4e7a9e903a3774a4bbe4329f47d3de4d81a3a187bf0625f6f5e3", func := "lotdrawer/lotdrawerkeep.TapeUsed", spec := "tapeUsed", apart := false }
def TapeUsedSaid : Prop := tapeUsedRow.holds Try.pinned (OpenSpec.ofChange tapeUsedSpec)

/-- ITS FALSE NEIGHBOUR: 'it returns false'. Refute it at one input. -/
def tapeUsedWrong : ChangeSpec := { name := "tapeUsed", fn := fun _ => fun
  | [d1, d2, d3] => { results := [.lit (.bool false)], args := [d1, d2, d3] }
  | _ => none }
def TapeUsedWrongFalsely : Prop := tapeUsedRow.holds Try.pinned (OpenSpec.ofChange tapeUsedWrong)

/-- 'lotdrawerkeep.TapeMany': WHATEVER THE INPUT: true; the input reads as it did. -/
def tapeManySpec : ChangeSpec := { name := "tapeMany", fn := fun _ => fun
  | [d1, d2, d3] => { results := [.lit (.bool true)], args := [d1, d2, d3] }
  | _ => none }
def tapeManyRow : OpenClaim := { program := "ytjcdkajcbefgcaa", sum := "98f223c7f01f4e7a9e903a3774a4bbe4329f47d3de4d81a3a187bf0625f6f5e3", func := "lotdrawer/lotdrawerkeep.TapeMany", spec := "tapeMany", apart := false }
def TapeManySaid : Prop := tapeManyRow.holds Try.pinned (OpenSpec.ofChange tapeManySpec)

/-- ITS FALSE NEIGHBOUR: 'it returns false'. Refute it at one input. -/
def tapeManyWrong : ChangeSpec := { name := "tapeMany", fn := fun _ => fun
  | [d1, d2, d3] => { results := [.lit (.bool false)], args := [d1, d2, d3] }
  | _ => none }
def TapeManyWrongFalsely : Prop := tapeManyRow.holds Try.pinned (OpenSpec.ofChange tapeManyWrong)

/- THE SECOND FORM. 'bulk': how many values and letters a reading holds, each counted each time it is reached (what is shared counts as often as it is met; a slice's spare places count too). A statement '..UptoSaid' is the law's where the arguments, and the package variables that the reading takes, are together of bulk at most 1048576: NARROWER than '..Said'. Prove '..Said' where nothing that the law and all that it calls make is longer than what came in: it says more and counts as full. Else prove '..UptoSaid'. A law counts once. -/
mutual
def uptoBulk {H : Type} : DataW H → Nat
  | .lit (.string bytes) => bytes.length + 1
  | .lit _ => 1
  | .nil => 1
  | .ptr d => uptoBulk d + 1
  | .slice elems spare => uptoBulkAll elems + uptoBulkAll spare + 1
  | .agg parts => uptoBulkAll parts + 1
  | .iface _ d => uptoBulk d + 1
  | .map entries => uptoBulkEntries entries + 1
  | .held _ => 1
def uptoBulkAll {H : Type} : List (DataW H) → Nat
  | [] => 0
  | d :: r => uptoBulk d + uptoBulkAll r
def uptoBulkEntries {H : Type} : List (Lit × DataW H) → Nat
  | [] => 0
  | x :: r => uptoBulkEntry x + uptoBulkEntries r
def uptoBulkEntry {H : Type} : Lit × DataW H → Nat
  | (.string bytes, d) => bytes.length + uptoBulk d + 1
  | (_, d) => uptoBulk d + 1
 end
def uptoSmall : (H : Type) → List (DataW H) → Bool := fun _ ds => decide (uptoBulkAll ds ≤ 1048576)
def OpenSpec.upto (s : _root_.Go.ChangeSpec) : _root_.Go.OpenSpec := { _root_.Go.OpenSpec.ofChange s with cond := some uptoSmall }

/-- 'lotdrawerkeep.TapeEven', WHERE WHAT IT READS IS OF BULK AT MOST 1048576: true; the input reads as it did. -/
def tapeEvenUptoRow : OpenClaim := { program := "ytjcdkajcbefgcaa", sum := "98f223c7f01f4e7a9e903a3774a4bbe4329f47d3de4d81a3a187bf0625f6f5e3", func := "lotdrawer/lotdrawerkeep.TapeEven", spec := "tapeEven", apart := false, narrowed := true }
def TapeEvenUptoSaid : Prop := tapeEvenUptoRow.holds Try.pinned (OpenSpec.upto tapeEvenSpec)

/-- 'lotdrawerkeep.TapeFair', WHERE WHAT IT READS IS OF BULK AT MOST 1048576: true; the input reads as it did. -/
def tapeFairUptoRow : OpenClaim := { program := "ytjcdkajcbefgcaa", sum := "98f223c7f01f4e7a9e903a3774a4bbe4329f47d3de4d81a3a187bf0625f6f5e3", func := "lotdrawer/lotdrawerkeep.TapeFair", spec := "tapeFair", apart := false, narrowed := true }
def TapeFairUptoSaid : Prop := tapeFairUptoRow.holds Try.pinned (OpenSpec.upto tapeFairSpec)

/-- 'lotdrawerkeep.TapeUsed', WHERE WHAT IT READS IS OF BULK AT MOST 1048576: true; the input reads as it did. -/
def tapeUsedUptoRow : OpenClaim := { program := "ytjcdkajcbefgcaa", sum := "98f223c7f01f4e7a9e903a3774a4bbe4329f47d3de4d81a3a187bf0625f6f5e3", func := "lotdrawer/lotdrawerkeep.TapeUsed", spec := "tapeUsed", apart := false, narrowed := true }
def TapeUsedUptoSaid : Prop := tapeUsedUptoRow.holds Try.pinned (OpenSpec.upto tapeUsedSpec)

/-- 'lotdrawerkeep.TapeMany', WHERE WHAT IT READS IS OF BULK AT MOST 1048576: true; the input reads as it did. -/
def tapeManyUptoRow : OpenClaim := { program := "ytjcdkajcbefgcaa", sum := "98f223c7f01f4e7a9e903a3774a4bbe4329f47d3de4d81a3a187bf0625f6f5e3", func := "lotdrawer/lotdrawerkeep.TapeMany", spec := "tapeMany", apart := false, narrowed := true }
def TapeManyUptoSaid : Prop := tapeManyUptoRow.holds Try.pinned (OpenSpec.upto tapeManySpec)

end Rows
end Go.Proofs.Ytjcdkajcbefgcaa
