/-
  No cell of these rows narrows 'for every input' (looked for: loops, veiled, ifaces, maps, wideKeys, modest, calm, conditions, laid).
  DERIVED. THE GIVEN ROWS OF THIS SEAT. 5 by the template 'for every input the law returns true; each argument reads behind the call as it read before'; 0 by the template 'total and deterministic' (their statements: YtmhkbcfdcbbdgaaTotals.lean).
  GIVEN WITH THE SEED: the statements are not yours to turn. If you find one false, say at which input.
  Laid BY PROGRAM, IN A SANDBOX (cutbox-rows.mjs): the forced cells as the released guide's own fill.sh prints them over the translation bf3a6aad40e5e8e6… (all of the seat's roots in one cut). By AI agents, Wed Nov 11 2026. No macro, syntax, notation, axiom, sorry.
-/
import Derived.Test.YtmhkbcfdcbbdgaaChecked
import GoSem.Claim
import GoSem.ClaimJoined
import GoSem.ClaimMapViews
import Derived.JoinedTies
import Derived.KernelRfl
namespace Go.Proofs.Ytmhkbcfdcbbdgaa
/- THE CELL 'sum', in the pinned program and in every row, IS THE sha256 OF THE DUMP (.gsa) THAT YtmhkbcfdcbbdgaaProg.lean LOADS. Nothing in Lean hashes anything: it is a label: what it is worth is what the hold of that sum in a sandbox is worth. -/
noncomputable def Try.pinned : Pinned := { name := "ytmhkbcfdcbbdgaa", sum := "bf3a6aad40e5e8e6f26400cc289b540a097f759d517875f8474c863304f1b223", checked := Try.checked }
namespace Rows
def none {H : Type} : Left H := { results := [], args := [] }

/-- 'lotdrawerkeep.BayesNever': WHATEVER THE INPUT: true; the input reads as it did. -/
def bayesNeverSpec : ChangeSpec := { name := "bayesNever", fn := fun _ => fun
  | [d1, d2, d3] => { results := [.lit (.bool true)], args := [d1, d2, d3] }
  | _ => none }
def bayesNeverRow : OpenClaim := { program := "ytmhkbcfdcbbdgaa", sum := "bf3a6aad40e5e8e6f26400cc289b540a097f759d517875f8474c863304f1b223", func := "lotdrawer/lotdrawerkeep.BayesNever", spec := "bayesNever", apart := false }
def BayesNeverSaid : Prop := bayesNeverRow.holds Try.pinned (OpenSpec.ofChange bayesNeverSpec)

/-- ITS FALSE NEIGHBOUR: 'it returns false'. Refute it at one input. -/
def bayesNeverWrong : ChangeSpec := { name := "bayesNever", fn := fun _ => fun
  | [d1, d2, d3] => { results := [.lit (.bool false)], args := [d1, d2, d3] }
  | _ => none }
def BayesNeverWrongFalsely : Prop := bayesNeverRow.holds Try.pinned (OpenSpec.ofChange bayesNeverWrong)

/-- 'lotdrawerkeep.BayesLike': WHATEVER THE INPUT: true; the input reads as it did. -/
def bayesLikeSpec : ChangeSpec := { name := "bayesLike", fn := fun _ => fun
  | [d1, d2, d3] => { results := [.lit (.bool true)], args := [d1, d2, d3] }
  | _ => none }
def bayesLikeRow : OpenClaim := { program := "ytmhkbcfdcbbdgaa", sum := "bf3a6aad40e5e8e6f26400cc289b540a097f759d517875f8474c863304f1b223", func := "lotdrawer/lotdrawerkeep.BayesLike", spec := "bayesLike", apart := false }
def BayesLikeSaid : Prop := bayesLikeRow.holds Try.pinned (OpenSpec.ofChange bayesLikeSpec)

/-- ITS FALSE NEIGHBOUR: 'it returns false'. Refute it at one input. -/
def bayesLikeWrong : ChangeSpec := { name := "bayesLike", fn := fun _ => fun
  | [d1, d2, d3] => { results := [.lit (.bool false)], args := [d1, d2, d3] }
  | _ => none }
def BayesLikeWrongFalsely : Prop := bayesLikeRow.holds Try.pinned (OpenSpec.ofChange bayesLikeWrong)

/-- 'lotdrawerkeep.BayesScale': WHATEVER THE INPUT: true; the input reads as it did. -/
def bayesScaleSpec : ChangeSpec := { name := "bayesScale", fn := fun _ => fun
  | [d1, d2, d3, d4, d5] => { results := [.lit (.bool true)], args := [d1, d2, d3, d4, d5] }
  | _ => none }
def bayesScaleRow : OpenClaim := { program := "ytmhkbcfdcbbdgaa", sum := "bf3a6aad40e5e8e6f26400cc289b540a097f759d517875f8474c863304f1b223", func := "lotdrawer/lotdrawerkeep.BayesScale", spec := "bayesScale", apart := false }
def BayesScaleSaid : Prop := bayesScaleRow.holds Try.pinned (OpenSpec.ofChange bayesScaleSpec)

/-- ITS FALSE NEIGHBOUR: 'it returns false'. Refute it at one input. -/
def bayesScaleWrong : ChangeSpec := { name := "bayesScale", fn := fun _ => fun
  | [d1, d2, d3, d4, d5] => { results := [.lit (.bool false)], args := [d1, d2, d3, d4, d5] }
  | _ => none }
def BayesScaleWrongFalsely : Prop := bayesScaleRow.holds Try.pinned (OpenSpec.ofChange bayesScaleWrong)

/-- 'lotdrawerkeep.BayesOrder': WHATEVER THE INPUT: true; the input reads as it did. -/
def bayesOrderSpec : ChangeSpec := { name := "bayesOrder", fn := fun _ => fun
  | [d1, d2, d3] => { results := [.lit (.bool true)], args := [d1, d2, d3] }
  | _ => none }
def bayesOrderRow : OpenClaim := { program := "ytmhkbcfdcbbdgaa", sum := "bf3a6aad40e5e8e6f26400cc289b540a097f759d517875f8474c863304f1b223", func := "lotdrawer/lotdrawerkeep.BayesOrder", spec := "bayesOrder", apart := false }
def BayesOrderSaid : Prop := bayesOrderRow.holds Try.pinned (OpenSpec.ofChange bayesOrderSpec)

/-- ITS FALSE NEIGHBOUR: 'it returns false'. Refute it at one input. -/
def bayesOrderWrong : ChangeSpec := { name := "bayesOrder", fn := fun _ => fun
  | [d1, d2, d3] => { results := [.lit (.bool false)], args := [d1, d2, d3] }
  | _ => none }
def BayesOrderWrongFalsely : Prop := bayesOrderRow.holds Try.pinned (OpenSpec.ofChange bayesOrderWrong)

/-- 'lotdrawerkeep.BayesOn': WHATEVER THE INPUT: true; the input reads as it did. -/
def bayesOnSpec : ChangeSpec := { name := "bayesOn", fn := fun _ => fun
  | [d1, d2, d3, d4] => { results := [.lit (.bool true)], args := [d1, d2, d3, d4] }
  | _ => none }
def bayesOnRow : OpenClaim := { program := "ytmhkbcfdcbbdgaa", sum := "bf3a6aad40e5e8e6f26400cc289b540a097f759d517875f8474c863304f1b223", func := "lotdrawer/lotdrawerkeep.BayesOn", spec := "bayesOn", apart := false }
def BayesOnSaid : Prop := bayesOnRow.holds Try.pinned (OpenSpec.ofChange bayesOnSpec)

/-- ITS FALSE NEIGHBOUR: 'it returns false'. Refute it at one input. -/
def bayesOnWrong : ChangeSpec := { name := "bayesOn", fn := fun _ => fun
  | [d1, d2, d3, d4] => { results := [.lit (.bool false)], args := [d1, d2, d3, d4] }
  | _ => none }
def BayesOnWrongFalsely : Prop := bayesOnRow.holds Try.pinned (OpenSpec.ofChange bayesOnWrong)

/- THE SECOND FORM. 'bulk': how many values and letters a reading holds, each counted each time it is reached (what is shared counts as often as it is met; a slice's spare places count too). A statement '..UptoSaid' is the law's where the arguments, and the package variables that the reading takes, are together of bulk at most 1048576: NARROWER than '..Said'. Prove '..Said' where nothing that the law and all that it calls make is longer than what came in: it says more and counts as full. Else prove '..UptoSaid'. A law counts once. -/
mutual
def uptoBulk {H : Type} : DataW H → Nat
  | .lit (.string bytes) => bytes.length + 1
  | .lit _ => 1
  | .nil => 1
  | .ptr d => uptoBulk d + 1
  | .slice elems spare => uptoBulkAll elems + uptoBulkAll spare + 1
  | .agg parts => uptoBulkAll parts + 1
  | .iface _ d => uptoBulk d + 1
  | .map entries => uptoBulkEntries entries + 1
  | .held _ => 1
def uptoBulkAll {H : Type} : List (DataW H) → Nat
  | [] => 0
  | d :: r => uptoBulk d + uptoBulkAll r
def uptoBulkEntries {H : Type} : List (Lit × DataW H) → Nat
  | [] => 0
  | x :: r => uptoBulkEntry x + uptoBulkEntries r
def uptoBulkEntry {H : Type} : Lit × DataW H → Nat
  | (.string bytes, d) => bytes.length + uptoBulk d + 1
  | (_, d) => uptoBulk d + 1
 end
def uptoSmall : (H : Type) → List (DataW H) → Bool := fun _ ds => decide (uptoBulkAll ds ≤ 1048576)
def OpenSpec.upto (s : _root_.Go.ChangeSpec) : _root_.Go.OpenSpec := { _root_.Go.OpenSpec.ofChange s with cond := some uptoSmall }

/-- 'lotdrawerkeep.BayesNever', WHERE WHAT IT READS IS OF BULK AT MOST 1048576: true; the input reads as it did. -/
def bayesNeverUptoRow : OpenClaim := { program := "ytmhkbcfdcbbdgaa", sum := "bf3a6aad40e5e8e6f26400cc289b540a097f759d517875f8474c863304f1b223", func := "lotdrawer/lotdrawerkeep.BayesNever", spec := "bayesNever", apart := false, narrowed := true }
def BayesNeverUptoSaid : Prop := bayesNeverUptoRow.holds Try.pinned (OpenSpec.upto bayesNeverSpec)

/-- 'lotdrawerkeep.BayesLike', WHERE WHAT IT READS IS OF BULK AT MOST 1048576: true; the input reads as it did. -/
def bayesLikeUptoRow : OpenClaim := { program := "ytmhkbcfdcbbdgaa", sum := "bf3a6aad40e5e8e6f26400cc289b540a097f759d517875f8474c863304f1b223", func := "lotdrawer/lotdrawerkeep.BayesLike", spec := "bayesLike", apart := false, narrowed := true }
def BayesLikeUptoSaid : Prop := bayesLikeUptoRow.holds Try.pinned (OpenSpec.upto bayesLikeSpec)

/-- 'lotdrawerkeep.BayesScale', WHERE WHAT IT READS IS OF BULK AT MOST 1048576: true; the input reads as it did. -/
def bayesScaleUptoRow : OpenClaim := { program := "ytmhkbcfdcbbdgaa", sum := "bf3a6aad40e5e8e6f26400cc289b540a097f759d517875f8474c863304f1b223", func := "lotdrawer/lotdrawerkeep.BayesScale", spec := "bayesScale", apart := false, narrowed := true }
def BayesScaleUptoSaid : Prop := bayesScaleUptoRow.holds Try.pinned (OpenSpec.upto bayesScaleSpec)

/-- 'lotdrawerkeep.BayesOrder', WHERE WHAT IT READS IS OF BULK AT MOST 1048576: true; the input reads as it did. -/
def bayesOrderUptoRow : OpenClaim := { program := "ytmhkbcfdcbbdgaa", sum := "bf3a6aad40e5e8e6f26400cc289b540a097f759d517875f8474c863304f1b223", func := "lotdrawer/lotdrawerkeep.BayesOrder", spec := "bayesOrder", apart := false, narrowed := true }
def BayesOrderUptoSaid : Prop := bayesOrderUptoRow.holds Try.pinned (OpenSpec.upto bayesOrderSpec)

/-- 'lotdrawerkeep.BayesOn', WHERE WHAT IT READS IS OF BULK AT MOST 1048576: true; the input reads as it did. -/
def bayesOnUptoRow : OpenClaim := { program := "ytmhkbcfdcbbdgaa", sum := "bf3a6aad40e5e8e6f26400cc289b540a097f759d517875f8474c863304f1b223", func := "lotdrawer/lotdrawerkeep.BayesOn", spec := "bayesOn", apart := false, narrowed := true }
def BayesOnUptoSaid : Prop := bayesOnUptoRow.holds Try.pinned (OpenSpec.upto bayesOnSpec)

end Rows
end Go.Proofs.Ytmhkbcfdcbbdgaa
