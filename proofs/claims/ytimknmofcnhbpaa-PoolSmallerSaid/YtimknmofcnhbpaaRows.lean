/-
  No cell of these rows narrows 'for every input' (looked for: loops, veiled, ifaces, maps, wideKeys, modest, calm, conditions, laid).
  DERIVED. THE GIVEN ROWS OF THIS SEAT. 4 by the template 'for every input the law returns true; each argument reads behind the call as it read before'; 0 by the template 'total and deterministic' (their statements: YtimknmofcnhbpaaTotals.lean).
  GIVEN WITH THE SEED: the statements are not yours to turn. If you find one false, say at which input.
  Laid BY PROGRAM, IN A SANDBOX (cutbox-rows.mjs): the forced cells as the released guide's own fill.sh prints them over the translation ee6f75670ed1dc4f… (all of the seat's roots in one cut). By AI agents, Wed Nov 11 2026. No macro, syntax, notation, axiom, sorry.
-/
import Derived.Test.YtimknmofcnhbpaaChecked
import GoSem.Claim
import GoSem.ClaimJoined
import GoSem.ClaimMapViews
import Derived.JoinedTies
import Derived.KernelRfl
namespace Go.Proofs.Ytimknmofcnhbpaa
/- THE CELL 'sum', in the pinned program and in every row, IS THE sha256 OF THE DUMP (.gsa) THAT YtimknmofcnhbpaaProg.lean LOADS. Nothing in Lean hashes anything: it is a label: what it is worth is what the hold of that sum in a sandbox is worth. -/
noncomputable def Try.pinned : Pinned := { name := "ytimknmofcnhbpaa", sum := "ee6f75670ed1dc4f0bf02b344330b06ae91b0a65430990994db30e67bbccfbaa", checked := Try.checked }
namespace Rows
def none {H : Type} : Left H := { results := [], args := [] }

/-- 'lotdrawerkeep.PoolEven': WHATEVER THE INPUT: true; the input reads as it did. -/
def poolEvenSpec : ChangeSpec := { name := "poolEven", fn := fun _ => fun
  | [d1, d2] => { results := [.lit (.bool true)], args := [d1, d2] }
  | _ => none }
def poolEvenRow : OpenClaim := { program := "ytimknmofcnhbpaa", sum := "ee6f75670ed1dc4f0bf02b344330b06ae91b0a65430990994db30e67bbccfbaa", func := "lotdrawer/lotdrawerkeep.PoolEven", spec := "poolEven", unfollowed := true, recurses := true, apart := false }
def PoolEvenSaid : Prop := poolEvenRow.holds Try.pinned (OpenSpec.ofChange poolEvenSpec)

/-- ITS FALSE NEIGHBOUR: 'it returns false'. Refute it at one input. -/
def poolEvenWrong : ChangeSpec := { name := "poolEven", fn := fun _ => fun
  | [d1, d2] => { results := [.lit (.bool false)], args := [d1, d2] }
  | _ => none }
def PoolEvenWrongFalsely : Prop := poolEvenRow.holds Try.pinned (OpenSpec.ofChange poolEvenWrong)

/-- 'lotdrawerkeep.PoolSmaller': WHATEVER THE INPUT: true; the input reads as it did. -/
def poolSmallerSpec : ChangeSpec := { name := "poolSmaller", fn := fun _ => fun
  | [d1, d2, d3] => { results := [.lit (.bool true)], args := [d1, d2, d3] }
  | _ => none }
def poolSmallerRow : OpenClaim := { program := "ytimknmofcnhbpaa", sum := "ee6f75670ed1dc4f0bf02b344330b06ae91b0a65430990994db30e67bbccfbaa", func := "lotdrawer/lotdrawerkeep.PoolSmaller", spec := "poolSmaller", unfollowed := true, recurses := true, apart := false }
def PoolSmallerSaid : Prop := poolSmallerRow.holds Try.pinned (OpenSpec.ofChange poolSmallerSpec)

/-- ITS FALSE NEIGHBOUR: 'it returns false'. Refute it at one input. -/
def poolSmallerWrong : ChangeSpec := { name := "poolSmaller", fn := fun _ => fun
  | [d1, d2, d3] => { results := [.lit (.bool false)], args := [d1, d2, d3] }
  | _ => none }
def PoolSmallerWrongFalsely : Prop := poolSmallerRow.holds Try.pinned (OpenSpec.ofChange poolSmallerWrong)

/-- 'lotdrawerkeep.PoolParts': WHATEVER THE INPUT: true; the input reads as it did. -/
def poolPartsSpec : ChangeSpec := { name := "poolParts", fn := fun _ => fun
  | [d1, d2, d3, d4, d5] => { results := [.lit (.bool true)], args := [d1, d2, d3, d4, d5] }
  | _ => none }
def poolPartsRow : OpenClaim := { program := "ytimknmofcnhbpaa", sum := "ee6f75670ed1dc4f0bf02b344330b06ae91b0a65430990994db30e67bbccfbaa", func := "lotdrawer/lotdrawerkeep.PoolParts", spec := "poolParts", apart := false }
def PoolPartsSaid : Prop := poolPartsRow.holds Try.pinned (OpenSpec.ofChange poolPartsSpec)

/-- ITS FALSE NEIGHBOUR: 'it returns false'. Refute it at one input. -/
def poolPartsWrong : ChangeSpec := { name := "poolParts", fn := fun _ => fun
  | [d1, d2, d3, d4, d5] => { results := [.lit (.bool false)], args := [d1, d2, d3, d4, d5] }
  | _ => none }
def PoolPartsWrongFalsely : Prop := poolPartsRow.holds Try.pinned (OpenSpec.ofChange poolPartsWrong)

/-- 'lotdrawerkeep.PoolFew': WHATEVER THE INPUT: true; the input reads as it did. -/
def poolFewSpec : ChangeSpec := { name := "poolFew", fn := fun _ => fun
  | [d1, d2, d3] => { results := [.lit (.bool true)], args := [d1, d2, d3] }
  | _ => none }
def poolFewRow : OpenClaim := { program := "ytimknmofcnhbpaa", sum := "ee6f75670ed1dc4f0bf02b344330b06ae91b0a65430990994db30e67bbccfbaa", func := "lotdrawer/lotdrawerkeep.PoolFew", spec := "poolFew", apart := false }
def PoolFewSaid : Prop := poolFewRow.holds Try.pinned (OpenSpec.ofChange poolFewSpec)

/-- ITS FALSE NEIGHBOUR: 'it returns false'. Refute it at one input. -/
def poolFewWrong : ChangeSpec := { name := "poolFew", fn := fun _ => fun
  | [d1, d2, d3] => { results := [.lit (.bool false)], args := [d1, d2, d3] }
  | _ => none }
def PoolFewWrongFalsely : Prop := poolFewRow.holds Try.pinned (OpenSpec.ofChange poolFewWrong)

/- THE SECOND FORM. 'bulk': how many values and letters a reading holds, each counted each time it is reached (what is shared counts as often as it is met; a slice's spare places count too). A statement '..UptoSaid' is the law's where the arguments, and the package variables that the reading takes, are together of bulk at most 1048576: NARROWER than '..Said'. Prove '..Said' where nothing that the law and all that it calls make is longer than what came in: it says more and counts as full. Else prove '..UptoSaid'. A law counts once. -/
mutual
def uptoBulk {H : Type} : DataW H → Nat
  | .lit (.string bytes) => bytes.length + 1
  | .lit _ => 1
  | .nil => 1
  | .ptr d => uptoBulk d + 1
  | .slice elems spare => uptoBulkAll elems + uptoBulkAll spare + 1
  | .agg parts => uptoBulkAll parts + 1
  | .iface _ d => uptoBulk d + 1
  | .map entries => uptoBulkEntries entries + 1
  | .held _ => 1
def uptoBulkAll {H : Type} : List (DataW H) → Nat
  | [] => 0
  | d :: r => uptoBulk d + uptoBulkAll r
def uptoBulkEntries {H : Type} : List (Lit × DataW H) → Nat
  | [] => 0
  | x :: r => uptoBulkEntry x + uptoBulkEntries r
def uptoBulkEntry {H : Type} : Lit × DataW H → Nat
  | (.string bytes, d) => bytes.length + uptoBulk d + 1
  | (_, d) => uptoBulk d + 1
 end
def uptoSmall : (H : Type) → List (DataW H) → Bool := fun _ ds => decide (uptoBulkAll ds ≤ 1048576)
def OpenSpec.upto (s : _root_.Go.ChangeSpec) : _root_.Go.OpenSpec := { _root_.Go.OpenSpec.ofChange s with cond := some uptoSmall }

/-- 'lotdrawerkeep.PoolEven', WHERE WHAT IT READS IS OF BULK AT MOST 1048576: true; the input reads as it did. -/
def poolEvenUptoRow : OpenClaim := { program := "ytimknmofcnhbpaa", sum := "ee6f75670ed1dc4f0bf02b344330b06ae91b0a65430990994db30e67bbccfbaa", func := "lotdrawer/lotdrawerkeep.PoolEven", spec := "poolEven", unfollowed := true, recurses := true, apart := false, narrowed := true }
def PoolEvenUptoSaid : Prop := poolEvenUptoRow.holds Try.pinned (OpenSpec.upto poolEvenSpec)

/-- 'lotdrawerkeep.PoolSmaller', WHERE WHAT IT READS IS OF BULK AT MOST 1048576: true; the input reads as it did. -/
def poolSmallerUptoRow : OpenClaim := { program := "ytimknmofcnhbpaa", sum := "ee6f75670ed1dc4f0bf02b344330b06ae91b0a65430990994db30e67bbccfbaa", func := "lotdrawer/lotdrawerkeep.PoolSmaller", spec := "poolSmaller", unfollowed := true, recurses := true, apart := false, narrowed := true }
def PoolSmallerUptoSaid : Prop := poolSmallerUptoRow.holds Try.pinned (OpenSpec.upto poolSmallerSpec)

/-- 'lotdrawerkeep.PoolParts', WHERE WHAT IT READS IS OF BULK AT MOST 1048576: true; the input reads as it did. -/
def poolPartsUptoRow : OpenClaim := { program := "ytimknmofcnhbpaa", sum := "ee6f75670ed1dc4f0bf02b344330b06ae91b0a65430990994db30e67bbccfbaa", func := "lotdrawer/lotdrawerkeep.PoolParts", spec := "poolParts", apart := false, narrowed := true }
def PoolPartsUptoSaid : Prop := poolPartsUptoRow.holds Try.pinned (OpenSpec.upto poolPartsSpec)

/-- 'lotdrawerkeep.PoolFew', WHERE WHAT IT READS IS OF BULK AT MOST 1048576: true; the input reads as it did. -/
def poolFewUptoRow : OpenClaim := { program := "ytimknmofcnhbpaa", sum := "ee6f75670ed1dc4f0bf02b344330b06ae91b0a65430990994db30e67bbccfbaa", func := "lotdrawer/lotdrawerkeep.PoolFew", spec := "poolFew", apart := false, narrowed := true }
def PoolFewUptoSaid : Prop := poolFewUptoRow.holds Try.pinned (OpenSpec.upto poolFewSpec)

end Rows
end Go.Proofs.Ytimknmofcnhbpaa
