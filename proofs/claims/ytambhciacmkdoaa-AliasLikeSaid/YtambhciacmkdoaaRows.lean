/-
  No cell of these rows narrows 'for every input' (looked for: loops, veiled, ifaces, maps, wideKeys, modest, calm, conditions, laid).
  DERIVED. THE GIVEN ROWS OF THIS SEAT. 4 by the template 'for every input the law returns true; each argument reads behind the call as it read before'; 0 by the template 'total and deterministic' (their statements: YtambhciacmkdoaaTotals.lean).
  GIVEN WITH THE SEED: the statements are not yours to turn. If you find one false, say at which input.
  Laid BY PROGRAM, IN A SANDBOX (cutbox-rows.mjs): the forced cells as the released guide's own fill.sh prints them over the translation bb9f088e9b2cbbdf… (all of the seat's roots in one cut). By AI agents, Wed Nov 11 2026. No macro, syntax, notation, axiom, sorry.
-/
import Derived.Test.YtambhciacmkdoaaChecked
import GoSem.Claim
import GoSem.ClaimJoined
import GoSem.ClaimMapViews
import Derived.JoinedTies
import Derived.KernelRfl
namespace Go.Proofs.Ytambhciacmkdoaa
/- THE CELL 'sum', in the pinned program and in every row, IS THE sha256 OF THE DUMP (.gsa) THAT YtambhciacmkdoaaProg.lean LOADS. Nothing in Lean hashes anything: it is a label: what it is worth is what the hold of that sum in a sandbox is worth. -/
noncomputable def Try.pinned : Pinned := { name := "ytambhciacmkdoaa", sum := "bb9f088e9b2cbbdfcc88a8c5d9fbe47a7ecd6cc054e6e9aeb30a03c979329cfe", checked := Try.checked }
namespace Rows
def none {H : Type} : Left H := { results := [], args := [] }

/-- 'lotdrawerkeep.AliasJust': WHATEVER THE INPUT: true; the input reads as it did. -/
def aliasJustSpec : ChangeSpec := { name := "aliasJust", fn := fun _ => fun
  | [d] => { results := [.lit (.bool true)], args := [d] }
  | _ => none }
def aliasJustRow : OpenClaim := { program := "ytambhciacmkdoaa", sum := "bb9f088e9b2cbbdfcc88a8c5d9fbe47a7ecd6cc054e6e9aeb30a03c979329cfe", func := "lotdrawer/lotdrawerkeep.AliasJust", spec := "aliasJust", apart := false }
def AliasJustSaid : Prop := aliasJustRow.holds Try.pinned (OpenSpec.ofChange aliasJustSpec)

/-- ITS FALSE NEIGHBOUR: 'it returns false'. Refute it at one input. -/
def aliasJustWrong : ChangeSpec := { name := "aliasJust", fn := fun _ => fun
  | [d] => { results := [.lit (.bool false)], args := [d] }
  | _ => none }
def AliasJustWrongFalsely : Prop := aliasJustRow.holds Try.pinned (OpenSpec.ofChange aliasJustWrong)

/-- 'lotdrawerkeep.AliasTwo': WHATEVER THE INPUT: true; the input reads as it did. -/
def aliasTwoSpec : ChangeSpec := { name := "aliasTwo", fn := fun _ => fun
  | [d] => { results := [.lit (.bool true)], args := [d] }
  | _ => none }
def aliasTwoRow : OpenClaim := { program := "ytambhciacmkdoaa", sum := "bb9f088e9b2cbbdfcc88a8c5d9fbe47a7ecd6cc054e6e9aeb30a03c979329cfe", func := "lotdrawer/lotdrawerkeep.AliasTwo", spec := "aliasTwo", apart := false }
def AliasTwoSaid : Prop := aliasTwoRow.holds Try.pinned (OpenSpec.ofChange aliasTwoSpec)

/-- ITS FALSE NEIGHBOUR: 'it returns false'. Refute it at one input. -/
def aliasTwoWrong : ChangeSpec := { name := "aliasTwo", fn := fun _ => fun
  | [d] => { results := [.lit (.bool false)], args := [d] }
  | _ => none }
def AliasTwoWrongFalsely : Prop := aliasTwoRow.holds Try.pinned (OpenSpec.ofChange aliasTwoWrong)

/-- 'lotdrawerkeep.AliasScale': WHATEVER THE INPUT: true; the input reads as it did. -/
def aliasScaleSpec : ChangeSpec := { name := "aliasScale", fn := fun _ => fun
  | [d1, d2] => { results := [.lit (.bool true)], args := [d1, d2] }
  | _ => none }
def aliasScaleRow : OpenClaim := { program := "ytambhciacmkdoaa", sum := "bb9f088e9b2cbbdfcc88a8c5d9fbe47a7ecd6cc054e6e9aeb30a03c979329cfe", func := "lotdrawer/lotdrawerkeep.AliasScale", spec := "aliasScale", apart := false }
def AliasScaleSaid : Prop := aliasScaleRow.holds Try.pinned (OpenSpec.ofChange aliasScaleSpec)

/-- ITS FALSE NEIGHBOUR: 'it returns false'. Refute it at one input. -/
def aliasScaleWrong : ChangeSpec := { name := "aliasScale", fn := fun _ => fun
  | [d1, d2] => { results := [.lit (.bool false)], args := [d1, d2] }
  | _ => none }
def AliasScaleWrongFalsely : Prop := aliasScaleRow.holds Try.pinned (OpenSpec.ofChange aliasScaleWrong)

/-- 'lotdrawerkeep.AliasLike': WHATEVER THE INPUT: true; the input reads as it did. -/
def aliasLikeSpec : ChangeSpec := { name := "aliasLike", fn := fun _ => fun
  | [d1, d2] => { results := [.lit (.bool true)], args := [d1, d2] }
  | _ => none }
def aliasLikeRow : OpenClaim := { program := "ytambhciacmkdoaa", sum := "bb9f088e9b2cbbdfcc88a8c5d9fbe47a7ecd6cc054e6e9aeb30a03c979329cfe", func := "lotdrawer/lotdrawerkeep.AliasLike", spec := "aliasLike", apart := false }
def AliasLikeSaid : Prop := aliasLikeRow.holds Try.pinned (OpenSpec.ofChange aliasLikeSpec)

/-- ITS FALSE NEIGHBOUR: 'it returns false'. Refute it at one input. -/
def aliasLikeWrong : ChangeSpec := { name := "aliasLike", fn := fun _ => fun
  | [d1, d2] => { results := [.lit (.bool false)], args := [d1, d2] }
  | _ => none }
def AliasLikeWrongFalsely : Prop := aliasLikeRow.holds Try.pinned (OpenSpec.ofChange aliasLikeWrong)

/- THE SECOND FORM. 'bulk': how many values and letters a reading holds, each counted each time it is reached (what is shared counts as often as it is met; a slice's spare places count too). A statement '..UptoSaid' is the law's where the arguments, and the package variables that the reading takes, are together of bulk at most 1048576: NARROWER than '..Said'. Prove '..Said' where nothing that the law and all that it calls make is longer than what came in: it says more and counts as full. Else prove '..UptoSaid'. A law counts once. -/
mutual
def uptoBulk {H : Type} : DataW H → Nat
  | .lit (.string bytes) => bytes.length + 1
  | .lit _ => 1
  | .nil => 1
  | .ptr d => uptoBulk d + 1
  | .slice elems spare => uptoBulkAll elems + uptoBulkAll spare + 1
  | .agg parts => uptoBulkAll parts + 1
  | .iface _ d => uptoBulk d + 1
  | .map entries => uptoBulkEntries entries + 1
  | .held _ => 1
def uptoBulkAll {H : Type} : List (DataW H) → Nat
  | [] => 0
  | d :: r => uptoBulk d + uptoBulkAll r
def uptoBulkEntries {H : Type} : List (Lit × DataW H) → Nat
  | [] => 0
  | x :: r => uptoBulkEntry x + uptoBulkEntries r
def uptoBulkEntry {H : Type} : Lit × DataW H → Nat
  | (.string bytes, d) => bytes.length + uptoBulk d + 1
  | (_, d) => uptoBulk d + 1
 end
def uptoSmall : (H : Type) → List (DataW H) → Bool := fun _ ds => decide (uptoBulkAll ds ≤ 1048576)
def OpenSpec.upto (s : _root_.Go.ChangeSpec) : _root_.Go.OpenSpec := { _root_.Go.OpenSpec.ofChange s with cond := some uptoSmall }

/-- 'lotdrawerkeep.AliasJust', WHERE WHAT IT READS IS OF BULK AT MOST 1048576: true; the input reads as it did. -/
def aliasJustUptoRow : OpenClaim := { program := "ytambhciacmkdoaa", sum := "bb9f088e9b2cbbdfcc88a8c5d9fbe47a7ecd6cc054e6e9aeb30a03c979329cfe", func := "lotdrawer/lotdrawerkeep.AliasJust", spec := "aliasJust", apart := false, narrowed := true }
def AliasJustUptoSaid : Prop := aliasJustUptoRow.holds Try.pinned (OpenSpec.upto aliasJustSpec)

/-- 'lotdrawerkeep.AliasTwo', WHERE WHAT IT READS IS OF BULK AT MOST 1048576: true; the input reads as it did. -/
def aliasTwoUptoRow : OpenClaim := { program := "ytambhciacmkdoaa", sum := "bb9f088e9b2cbbdfcc88a8c5d9fbe47a7ecd6cc054e6e9aeb30a03c979329cfe", func := "lotdrawer/lotdrawerkeep.AliasTwo", spec := "aliasTwo", apart := false, narrowed := true }
def AliasTwoUptoSaid : Prop := aliasTwoUptoRow.holds Try.pinned (OpenSpec.upto aliasTwoSpec)

/-- 'lotdrawerkeep.AliasScale', WHERE WHAT IT READS IS OF BULK AT MOST 1048576: true; the input reads as it did. -/
def aliasScaleUptoRow : OpenClaim := { program := "ytambhciacmkdoaa", sum := "bb9f088e9b2cbbdfcc88a8c5d9fbe47a7ecd6cc054e6e9aeb30a03c979329cfe", func := "lotdrawer/lotdrawerkeep.AliasScale", spec := "aliasScale", apart := false, narrowed := true }
def AliasScaleUptoSaid : Prop := aliasScaleUptoRow.holds Try.pinned (OpenSpec.upto aliasScaleSpec)

/-- 'lotdrawerkeep.AliasLike', WHERE WHAT IT READS IS OF BULK AT MOST 1048576: true; the input reads as it did. -/
def aliasLikeUptoRow : OpenClaim := { program := "ytambhciacmkdoaa", sum := "bb9f088e9b2cbbdfcc88a8c5d9fbe47a7ecd6cc054e6e9aeb30a03c979329cfe", func := "lotdrawer/lotdrawerkeep.AliasLike", spec := "aliasLike", apart := false, narrowed := true }
def AliasLikeUptoSaid : Prop := aliasLikeUptoRow.holds Try.pinned (OpenSpec.upto aliasLikeSpec)

end Rows
end Go.Proofs.Ytambhciacmkdoaa
