/-
  No cell of these rows narrows 'for every input' (looked for: loops, veiled, ifaces, maps, wideKeys, modest, calm, conditions, laid).
  DERIVED. THE GIVEN ROWS OF THIS SEAT. 5 by the template 'for every input the law returns true; each argument reads behind the call as it read before'; 0 by the template 'total and deterministic' (their statements: YtkmjjckpolopgaaTotals.lean).
  GIVEN WITH THE SEED: the statements are not yours to turn. If you find one false, say at which input.
  Laid BY PROGRAM, IN A SANDBOX (cutbox-rows.mjs): the forced cells as the released guide's own fill.sh prints them over the translation 7b864cd91a1c8d91… (all of the seat's roots in one cut). By AI agents, Wed Nov 11 2026. No macro, syntax, notation, axiom, sorry.
-/
import Derived.Test.YtkmjjckpolopgaaChecked
import GoSem.Claim
import GoSem.ClaimJoined
import GoSem.ClaimMapViews
import Derived.JoinedTies
import Derived.KernelRfl
namespace Go.Proofs.Ytkmjjckpolopgaa
/- THE CELL 'sum', in the pinned program and in every row, IS THE sha256 OF THE DUMP (.gsa) THAT YtkmjjckpolopgaaProg.lean LOADS. Nothing in Lean hashes anything: it is a label: what it is worth is what the hold of that sum in a sandbox is worth. -/
noncomputable def Try.pinned : Pinned := { name := "ytkmjjckpolopgaa", sum := "7b864cd91a1c8d91da8582176f22b1b54337eda81c0f2c710a4f30d39a8fd857", checked := Try.checked }
namespace Rows
def none {H : Type} : Left H := { results := [], args := [] }

/-- 'lotdrawerkeep.DropSum': WHATEVER THE INPUT: true; the input reads as it did. -/
def dropSumSpec : ChangeSpec := { name := "dropSum", fn := fun _ => fun
  | [d1, d2] => { results := [.lit (.bool true)], args := [d1, d2] }
  | _ => none }
def dropSumRow : OpenClaim := { program := "ytkmjjckpolopgaa", sum := "7b864cd91a1c8d91da8582176f22b1b54337eda81c0f2c710a4f30d39a8fd857", func := "lotdrawer/lotdrawerkeep.DropSum", spec := "dropSum", unfollowed := true, recurses := true, apart := false }
def DropSumSaid : Prop := dropSumRow.holds Try.pinned (OpenSpec.ofChange dropSumSpec)

/-- ITS FALSE NEIGHBOUR: 'it returns false'. Refute it at one input. -/
def dropSumWrong : ChangeSpec := { name := "dropSum", fn := fun _ => fun
  | [d1, d2] => { results := [.lit (.bool false)], args := [d1, d2] }
  | _ => none }
def DropSumWrongFalsely : Prop := dropSumRow.holds Try.pinned (OpenSpec.ofChange dropSumWrong)

/-- 'lotdrawerkeep.DropLikely': WHATEVER THE INPUT: true; the input reads as it did. -/
def dropLikelySpec : ChangeSpec := { name := "dropLikely", fn := fun _ => fun
  | [d1, d2] => { results := [.lit (.bool true)], args := [d1, d2] }
  | _ => none }
def dropLikelyRow : OpenClaim := { program := "ytkmjjckpolopgaa", sum := "7b864cd91a1c8d91da8582176f22b1b54337eda81c0f2c710a4f30d39a8fd857", func := "lotdrawer/lotdrawerkeep.DropLikely", spec := "dropLikely", unfollowed := true, recurses := true, apart := false }
def DropLikelySaid : Prop := dropLikelyRow.holds Try.pinned (OpenSpec.ofChange dropLikelySpec)

/-- ITS FALSE NEIGHBOUR: 'it returns false'. Refute it at one input. -/
def dropLikelyWrong : ChangeSpec := { name := "dropLikely", fn := fun _ => fun
  | [d1, d2] => { results := [.lit (.bool false)], args := [d1, d2] }
  | _ => none }
def DropLikelyWrongFalsely : Prop := dropLikelyRow.holds Try.pinned (OpenSpec.ofChange dropLikelyWrong)

/-- 'lotdrawerkeep.DropOne': WHATEVER THE INPUT: true; the input reads as it did. -/
def dropOneSpec : ChangeSpec := { name := "dropOne", fn := fun _ => fun
  | [d] => { results := [.lit (.bool true)], args := [d] }
  | _ => none }
def dropOneRow : OpenClaim := { program := "ytkmjjckpolopgaa", sum := "7b864cd91a1c8d91da8582176f22b1b54337eda81c0f2c710a4f30d39a8fd857", func := "lotdrawer/lotdrawerkeep.DropOne", spec := "dropOne", unfollowed := true, recurses := true, apart := false }
def DropOneSaid : Prop := dropOneRow.holds Try.pinned (OpenSpec.ofChange dropOneSpec)

/-- ITS FALSE NEIGHBOUR: 'it returns false'. Refute it at one input. -/
def dropOneWrong : ChangeSpec := { name := "dropOne", fn := fun _ => fun
  | [d] => { results := [.lit (.bool false)], args := [d] }
  | _ => none }
def DropOneWrongFalsely : Prop := dropOneRow.holds Try.pinned (OpenSpec.ofChange dropOneWrong)

/-- 'lotdrawerkeep.DropFair': WHATEVER THE INPUT: true; the input reads as it did. -/
def dropFairSpec : ChangeSpec := { name := "dropFair", fn := fun _ => fun
  | [d1, d2] => { results := [.lit (.bool true)], args := [d1, d2] }
  | _ => none }
def dropFairRow : OpenClaim := { program := "ytkmjjckpolopgaa", sum := "7b864cd91a1c8d91da8582176f22b1b54337eda81c0f2c710a4f30d39a8fd857", func := "lotdrawer/lotdrawerkeep.DropFair", spec := "dropFair", unfollowed := true, recurses := true, apart := false }
def DropFairSaid : Prop := dropFairRow.holds Try.pinned (OpenSpec.ofChange dropFairSpec)

/-- ITS FALSE NEIGHBOUR: 'it returns false'. Refute it at one input. -/
def dropFairWrong : ChangeSpec := { name := "dropFair", fn := fun _ => fun
  | [d1, d2] => { results := [.lit (.bool false)], args := [d1, d2] }
  | _ => none }
def DropFairWrongFalsely : Prop := dropFairRow.holds Try.pinned (OpenSpec.ofChange dropFairWrong)

/-- 'lotdrawerkeep.DropOrder': WHATEVER THE INPUT: true; the input reads as it did. -/
def dropOrderSpec : ChangeSpec := { name := "dropOrder", fn := fun _ => fun
  | [d1, d2] => { results := [.lit (.bool true)], args := [d1, d2] }
  | _ => none }
def dropOrderRow : OpenClaim := { program := "ytkmjjckpolopgaa", sum := "7b864cd91a1c8d91da8582176f22b1b54337eda81c0f2c710a4f30d39a8fd857", func := "lotdrawer/lotdrawerkeep.DropOrder", spec := "dropOrder", unfollowed := true, recurses := true, apart := false }
def DropOrderSaid : Prop := dropOrderRow.holds Try.pinned (OpenSpec.ofChange dropOrderSpec)

/-- ITS FALSE NEIGHBOUR: 'it returns false'. Refute it at one input. -/
def dropOrderWrong : ChangeSpec := { name := "dropOrder", fn := fun _ => fun
  | [d1, d2] => { results := [.lit (.bool false)], args := [d1, d2] }
  | _ => none }
def DropOrderWrongFalsely : Prop := dropOrderRow.holds Try.pinned (OpenSpec.ofChange dropOrderWrong)

/- THE SECOND FORM. 'bulk': how many values and letters a reading holds, each counted each time it is reached (what is shared counts as often as it is met; a slice's spare places count too). A statement '..UptoSaid' is the law's where the arguments, and the package variables that the reading takes, are together of bulk at most 1048576: NARROWER than '..Said'. Prove '..Said' where nothing that the law and all that it calls make is longer than what came in: it says more and counts as full. Else prove '..UptoSaid'. A law counts once. -/
mutual
def uptoBulk {H : Type} : DataW H → Nat
  | .lit (.string bytes) => bytes.length + 1
  | .lit _ => 1
  | .nil => 1
  | .ptr d => uptoBulk d + 1
  | .slice elems spare => uptoBulkAll elems + uptoBulkAll spare + 1
  | .agg parts => uptoBulkAll parts + 1
  | .iface _ d => uptoBulk d + 1
  | .map entries => uptoBulkEntries entries + 1
  | .held _ => 1
def uptoBulkAll {H : Type} : List (DataW H) → Nat
  | [] => 0
  | d :: r => uptoBulk d + uptoBulkAll r
def uptoBulkEntries {H : Type} : List (Lit × DataW H) → Nat
  | [] => 0
  | x :: r => uptoBulkEntry x + uptoBulkEntries r
def uptoBulkEntry {H : Type} : Lit × DataW H → Nat
  | (.string bytes, d) => bytes.length + uptoBulk d + 1
  | (_, d) => uptoBulk d + 1
 end
def uptoSmall : (H : Type) → List (DataW H) → Bool := fun _ ds => decide (uptoBulkAll ds ≤ 1048576)
def OpenSpec.upto (s : _root_.Go.ChangeSpec) : _root_.Go.OpenSpec := { _root_.Go.OpenSpec.ofChange s with cond := some uptoSmall }

/-- 'lotdrawerkeep.DropSum', WHERE WHAT IT READS IS OF BULK AT MOST 1048576: true; the input reads as it did. -/
def dropSumUptoRow : OpenClaim := { program := "ytkmjjckpolopgaa", sum := "7b864cd91a1c8d91da8582176f22b1b54337eda81c0f2c710a4f30d39a8fd857", func := "lotdrawer/lotdrawerkeep.DropSum", spec := "dropSum", unfollowed := true, recurses := true, apart := false, narrowed := true }
def DropSumUptoSaid : Prop := dropSumUptoRow.holds Try.pinned (OpenSpec.upto dropSumSpec)

/-- 'lotdrawerkeep.DropLikely', WHERE WHAT IT READS IS OF BULK AT MOST 1048576: true; the input reads as it did. -/
def dropLikelyUptoRow : OpenClaim := { program := "ytkmjjckpolopgaa", sum := "7b864cd91a1c8d91da8582176f22b1b54337eda81c0f2c710a4f30d39a8fd857", func := "lotdrawer/lotdrawerkeep.DropLikely", spec := "dropLikely", unfollowed := true, recurses := true, apart := false, narrowed := true }
def DropLikelyUptoSaid : Prop := dropLikelyUptoRow.holds Try.pinned (OpenSpec.upto dropLikelySpec)

/-- 'lotdrawerkeep.DropOne', WHERE WHAT IT READS IS OF BULK AT MOST 1048576: true; the input reads as it did. -/
def dropOneUptoRow : OpenClaim := { program := "ytkmjjckpolopgaa", sum := "7b864cd91a1c8d91da8582176f22b1b54337eda81c0f2c710a4f30d39a8fd857", func := "lotdrawer/lotdrawerkeep.DropOne", spec := "dropOne", unfollowed := true, recurses := true, apart := false, narrowed := true }
def DropOneUptoSaid : Prop := dropOneUptoRow.holds Try.pinned (OpenSpec.upto dropOneSpec)

/-- 'lotdrawerkeep.DropFair', WHERE WHAT IT READS IS OF BULK AT MOST 1048576: true; the input reads as it did. -/
def dropFairUptoRow : OpenClaim := { program := "ytkmjjckpolopgaa", sum := "7b864cd91a1c8d91da8582176f22b1b54337eda81c0f2c710a4f30d39a8fd857", func := "lotdrawer/lotdrawerkeep.DropFair", spec := "dropFair", unfollowed := true, recurses := true, apart := false, narrowed := true }
def DropFairUptoSaid : Prop := dropFairUptoRow.holds Try.pinned (OpenSpec.upto dropFairSpec)

/-- 'lotdrawerkeep.DropOrder', WHERE WHAT IT READS IS OF BULK AT MOST 1048576: true; the input reads as it did. -/
def dropOrderUptoRow : OpenClaim := { program := "ytkmjjckpolopgaa", sum := "7b864cd91a1c8d91da8582176f22b1b54337eda81c0f2c710a4f30d39a8fd857", func := "lotdrawer/lotdrawerkeep.DropOrder", spec := "dropOrder", unfollowed := true, recurses := true, apart := false, narrowed := true }
def DropOrderUptoSaid : Prop := dropOrderUptoRow.holds Try.pinned (OpenSpec.upto dropOrderSpec)

end Rows
end Go.Proofs.Ytkmjjckpolopgaa
