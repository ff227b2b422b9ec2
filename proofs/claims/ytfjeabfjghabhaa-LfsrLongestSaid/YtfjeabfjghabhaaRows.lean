/-
  No cell of these rows narrows 'for every input' (looked for: loops, veiled, ifaces, maps, wideKeys, modest, calm, conditions, laid).
  DERIVED. THE GIVEN ROWS OF THIS SEAT. 4 by the template 'for every input the law returns true; each argument reads behind the call as it read before'; 0 by the template 'total and deterministic' (their statements: YtfjeabfjghabhaaTotals.lean).
  GIVEN WITH THE SEED: the statements are not yours to turn. If you find one false, say at which input.
  Laid BY PROGRAM, IN A SANDBOX (cutbox-rows.mjs): the forced cells as the released guide's own fill.sh prints them over the translation 5b1dbe3465cd3938… (all of the seat's roots in one cut). By AI agents, Wed Nov 11 2026. No macro, syntax, notation, axiom, sorry.
-/
import Derived.Test.YtfjeabfjghabhaaChecked
import GoSem.Claim
import GoSem.ClaimJoined
import GoSem.ClaimMapViews
import Derived.JoinedTies
import Derived.KernelRfl
namespace Go.Proofs.Ytfjeabfjghabhaa
/- THE CELL 'sum', in the pinned program and in every row, IS THE sha256 OF THE DUMP (.gsa) THAT YtfjeabfjghabhaaProg.lean LOADS. Nothing in Lean hashes anything: it is a label: what it is worth is what the hold of that sum in a sandbox is worth. -/
noncomputable def Try.pinned : Pinned := { name := "ytfjeabfjghabhaa", sum := "5b1dbe3465cd3938505d32280581ed496875f78b06be6b6bbd182c336bc7a97e", checked := Try.checked }
namespace Rows
def none {H : Type} : Left H := { results := [], args := [] }

/-- 'lotdrawerkeep.LfsrMix': WHATEVER THE INPUT: true; the input reads as it did. -/
def lfsrMixSpec : ChangeSpec := { name := "lfsrMix", fn := fun _ => fun
  | [d1, d2, d3, d4, d5] => { results := [.lit (.bool true)], args := [d1, d2, d3, d4, d5] }
  | _ => none }
def lfsrMixRow : OpenClaim := { program := "ytfjeabfjghabhaa", sum := "5b1dbe3465cd3938505d32280581ed496875f78b06be6b6bbd182c336bc7a97e", func := "lotdrawer/lotdrawerkeep.LfsrMix", spec := "lfsrMix", unfollowed := true, recurses := true, apart := false }
def LfsrMixSaid : Prop := lfsrMixRow.holds Try.pinned (OpenSpec.ofChange lfsrMixSpec)

/-- ITS FALSE NEIGHBOUR: 'it returns false'. Refute it at one input. -/
def lfsrMixWrong : ChangeSpec := { name := "lfsrMix", fn := fun _ => fun
  | [d1, d2, d3, d4, d5] => { results := [.lit (.bool false)], args := [d1, d2, d3, d4, d5] }
  | _ => none }
def LfsrMixWrongFalsely : Prop := lfsrMixRow.holds Try.pinned (OpenSpec.ofChange lfsrMixWrong)

/-- 'lotdrawerkeep.LfsrJump': WHATEVER THE INPUT: true; the input reads as it did. -/
def lfsrJumpSpec : ChangeSpec := { name := "lfsrJump", fn := fun _ => fun
  | [d1, d2, d3, d4, d5] => { results := [.lit (.bool true)], args := [d1, d2, d3, d4, d5] }
  | _ => none }
def lfsrJumpRow : OpenClaim := { program := "ytfjeabfjghabhaa", sum := "5b1dbe3465cd3938505d32280581ed496875f78b06be6b6bbd182c336bc7a97e", func := "lotdrawer/lotdrawerkeep.LfsrJump", spec := "lfsrJump", unfollowed := true, recurses := true, apart := false }
def LfsrJumpSaid : Prop := lfsrJumpRow.holds Try.pinned (OpenSpec.ofChange lfsrJumpSpec)

/-- ITS FALSE NEIGHBOUR: 'it returns false'. Refute it at one input. -/
def lfsrJumpWrong : ChangeSpec := { name := "lfsrJump", fn := fun _ => fun
  | [d1, d2, d3, d4, d5] => { results := [.lit (.bool false)], args := [d1, d2, d3, d4, d5] }
  | _ => none }
def LfsrJumpWrongFalsely : Prop := lfsrJumpRow.holds Try.pinned (OpenSpec.ofChange lfsrJumpWrong)

/-- 'lotdrawerkeep.LfsrLongest': WHATEVER THE INPUT: true; the input reads as it did. -/
def lfsrLongestSpec : ChangeSpec := { name := "lfsrLongest", fn := fun _ => fun
  | [d] => { results := [.lit (.bool true)], args := [d] }
  | _ => none }
def lfsrLongestRow : OpenClaim := { program := "ytfjeabfjghabhaa", sum := "5b1dbe3465cd3938505d32280581ed496875f78b06be6b6bbd182c336bc7a97e", func := "lotdrawer/lotdrawerkeep.LfsrLongest", spec := "lfsrLongest", unfollowed := true, recurses := true, apart := false }
def LfsrLongestSaid : Prop := lfsrLongestRow.holds Try.pinned (OpenSpec.ofChange lfsrLongestSpec)

/-- ITS FALSE NEIGHBOUR: 'it returns false'. Refute it at one input. -/
def lfsrLongestWrong : ChangeSpec := { name := "lfsrLongest", fn := fun _ => fun
  | [d] => { results := [.lit (.bool false)], args := [d] }
  | _ => none }
def LfsrLongestWrongFalsely : Prop := lfsrLongestRow.holds Try.pinned (OpenSpec.ofChange lfsrLongestWrong)

/-- 'lotdrawerkeep.LfsrBack': WHATEVER THE INPUT: true; the input reads as it did. -/
def lfsrBackSpec : ChangeSpec := { name := "lfsrBack", fn := fun _ => fun
  | [d1, d2, d3, d4] => { results := [.lit (.bool true)], args := [d1, d2, d3, d4] }
  | _ => none }
def lfsrBackRow : OpenClaim := { program := "ytfjeabfjghabhaa", sum := "5b1dbe3465cd3938505d32280581ed496875f78b06be6b6bbd182c336bc7a97e", func := "lotdrawer/lotdrawerkeep.LfsrBack", spec := "lfsrBack", unfollowed := true, recurses := true, apart := false }
def LfsrBackSaid : Prop := lfsrBackRow.holds Try.pinned (OpenSpec.ofChange lfsrBackSpec)

/-- ITS FALSE NEIGHBOUR: 'it returns false'. Refute it at one input. -/
def lfsrBackWrong : ChangeSpec := { name := "lfsrBack", fn := fun _ => fun
  | [d1, d2, d3, d4] => { results := [.lit (.bool false)], args := [d1, d2, d3, d4] }
  | _ => none }
def LfsrBackWrongFalsely : Prop := lfsrBackRow.holds Try.pinned (OpenSpec.ofChange lfsrBackWrong)

/- THE SECOND FORM. 'bulk': how many values and letters a reading holds, each counted each time it is reached (what is shared counts as often as it is met; a slice's spare places count too). A statement '..UptoSaid' is the law's where the arguments, and the package variables that the reading takes, are together of bulk at most 1048576: NARROWER than '..Said'. Prove '..Said' where nothing that the law and all that it calls make is longer than what came in: it says more and counts as full. Else prove '..UptoSaid'. A law counts once. -/
mutual
def uptoBulk {H : Type} : DataW H → Nat
  | .lit (.string bytes) => bytes.length + 1
  | .lit _ => 1
  | .nil => 1
  | .ptr d => uptoBulk d + 1
  | .slice elems spare => uptoBulkAll elems + uptoBulkAll spare + 1
  | .agg parts => uptoBulkAll parts + 1
  | .iface _ d => uptoBulk d + 1
  | .map entries => uptoBulkEntries entries + 1
  | .held _ => 1
def uptoBulkAll {H : Type} : List (DataW H) → Nat
  | [] => 0
  | d :: r => uptoBulk d + uptoBulkAll r
def uptoBulkEntries {H : Type} : List (Lit × DataW H) → Nat
  | [] => 0
  | x :: r => uptoBulkEntry x + uptoBulkEntries r
def uptoBulkEntry {H : Type} : Lit × DataW H → Nat
  | (.string bytes, d) => bytes.length + uptoBulk d + 1
  | (_, d) => uptoBulk d + 1
 end
def uptoSmall : (H : Type) → List (DataW H) → Bool := fun _ ds => decide (uptoBulkAll ds ≤ 1048576)
def OpenSpec.upto (s : _root_.Go.ChangeSpec) : _root_.Go.OpenSpec := { _root_.Go.OpenSpec.ofChange s with cond := some uptoSmall }

/-- 'lotdrawerkeep.LfsrMix', WHERE WHAT IT READS IS OF BULK AT MOST 1048576: true; the input reads as it did. -/
def lfsrMixUptoRow : OpenClaim := { program := "ytfjeabfjghabhaa", sum := "5b1dbe3465cd3938505d32280581ed496875f78b06be6b6bbd182c336bc7a97e", func := "lotdrawer/lotdrawerkeep.LfsrMix", spec := "lfsrMix", unfollowed := true, recurses := true, apart := false, narrowed := true }
def LfsrMixUptoSaid : Prop := lfsrMixUptoRow.holds Try.pinned (OpenSpec.upto lfsrMixSpec)

/-- 'lotdrawerkeep.LfsrJump', WHERE WHAT IT READS IS OF BULK AT MOST 1048576: true; the input reads as it did. -/
def lfsrJumpUptoRow : OpenClaim := { program := "ytfjeabfjghabhaa", sum := "5b1dbe3465cd3938505d32280581ed496875f78b06be6b6bbd182c336bc7a97e", func := "lotdrawer/lotdrawerkeep.LfsrJump", spec := "lfsrJump", unfollowed := true, recurses := true, apart := false, narrowed := true }
def LfsrJumpUptoSaid : Prop := lfsrJumpUptoRow.holds Try.pinned (OpenSpec.upto lfsrJumpSpec)

/-- 'lotdrawerkeep.LfsrLongest', WHERE WHAT IT READS IS OF BULK AT MOST 1048576: true; the input reads as it did. -/
def lfsrLongestUptoRow : OpenClaim := { program := "ytfjeabfjghabhaa", sum := "5b1dbe3465cd3938505d32280581ed496875f78b06be6b6bbd182c336bc7a97e", func := "lotdrawer/lotdrawerkeep.LfsrLongest", spec := "lfsrLongest", unfollowed := true, recurses := true, apart := false, narrowed := true }
def LfsrLongestUptoSaid : Prop := lfsrLongestUptoRow.holds Try.pinned (OpenSpec.upto lfsrLongestSpec)

/-- 'lotdrawerkeep.LfsrBack', WHERE WHAT IT READS IS OF BULK AT MOST 1048576: true; the input reads as it did. -/
def lfsrBackUptoRow : OpenClaim := { program := "ytfjeabfjghabhaa", sum := "5b1dbe3465cd3938505d32280581ed496875f78b06be6b6bbd182c336bc7a97e", func := "lotdrawer/lotdrawerkeep.LfsrBack", spec := "lfsrBack", unfollowed := true, recurses := true, apart := false, narrowed := true }
def LfsrBackUptoSaid : Prop := lfsrBackUptoRow.holds Try.pinned (OpenSpec.upto lfsrBackSpec)

end Rows
end Go.Proofs.Ytfjeabfjghabhaa
