/-
  No cell of these rows narrows 'for every input' (looked for: loops, veiled, ifaces, maps, wideKeys, modest, calm, conditions, laid).
  DERIVED. THE GIVEN ROWS OF THIS SEAT. 4 by the template 'for every input the law returns true; each argument reads behind the call as it read before'; 0 by the template 'total and deterministic' (their statements: YthkbcgafpaomnaaTotals.lean).
  GIVEN WITH THE SEED: the statements are not yours to turn. If you find one false, say at which input.
  Laid BY PROGRAM, IN A SANDBOX (cutbox-rows.mjs): the forced cells as the released guide's own fill.sh prints them over the translation 2117f442013c1b41… (all of the seat's roots in one cut). By AI agents, Wed Nov 11 2026. No macro, syntax, notation, axiom, sorry.
-/
import Derived.Test.YthkbcgafpaomnaaChecked
import GoSem.Claim
import GoSem.ClaimJoined
import GoSem.ClaimMapViews
import Derived.JoinedTies
import Derived.KernelRfl
namespace Go.Proofs.Ythkbcgafpaomnaa
/- THE CELL 'sum', in the pinned program and in every row, IS THE sha256 OF THE DUMP (.gsa) THAT YthkbcgafpaomnaaProg.lean LOADS. Nothing in Lean hashes anything: it is a label: what it is worth is what the hold of that sum in a sandbox is worth. -/
noncomputable def Try.pinned : Pinned := { name := "ythkbcgafpaomnaa", sum := "2117f442013c1b4111bc74d9407679c27021cd372d8be19e6860c78b7969fc10", checked := Try.checked }
namespace Rows
def none {H : Type} : Left H := { results := [], args := [] }

/-- 'lotdrawerkeep.PpsNear': WHATEVER THE INPUT: true; the input reads as it did. -/
def ppsNearSpec : ChangeSpec := { name := "ppsNear", fn := fun _ => fun
  | [d1, d2, d3] => { results := [.lit (.bool true)], args := [d1, d2, d3] }
  | _ => none }
def ppsNearRow : OpenClaim := { program := "ythkbcgafpaomnaa", sum := "2117f442013c1b4111bc74d9407679c27021cd372d8be19e6860c78b7969fc10", func := "lotdrawer/lotdrawerkeep.PpsNear", spec := "ppsNear", apart := false }
def PpsNearSaid : Prop := ppsNearRow.holds Try.pinned (OpenSpec.ofChange ppsNearSpec)

/-- ITS FALSE NEIGHBOUR: 'it returns false'. Refute it at one input. -/
def ppsNearWrong : ChangeSpec := { name := "ppsNear", fn := fun _ => fun
  | [d1, d2, d3] => { results := [.lit (.bool false)], args := [d1, d2, d3] }
  | _ => none }
def PpsNearWrongFalsely : Prop := ppsNearRow.holds Try.pinned (OpenSpec.ofChange ppsNearWrong)

/-- 'lotdrawerkeep.PpsScale': WHATEVER THE INPUT: true; the input reads as it did. -/
def ppsScaleSpec : ChangeSpec := { name := "ppsScale", fn := fun _ => fun
  | [d1, d2, d3, d4] => { results := [.lit (.bool true)], args := [d1, d2, d3, d4] }
  | _ => none }
def ppsScaleRow : OpenClaim := { program := "ythkbcgafpaomnaa", sum := "2117f442013c1b4111bc74d9407679c27021cd372d8be19e6860c78b7969fc10", func := "lotdrawer/lotdrawerkeep.PpsScale", spec := "ppsScale", apart := false }
def PpsScaleSaid : Prop := ppsScaleRow.holds Try.pinned (OpenSpec.ofChange ppsScaleSpec)

/-- ITS FALSE NEIGHBOUR: 'it returns false'. Refute it at one input. -/
def ppsScaleWrong : ChangeSpec := { name := "ppsScale", fn := fun _ => fun
  | [d1, d2, d3, d4] => { results := [.lit (.bool false)], args := [d1, d2, d3, d4] }
  | _ => none }
def PpsScaleWrongFalsely : Prop := ppsScaleRow.holds Try.pinned (OpenSpec.ofChange ppsScaleWrong)

/-- 'lotdrawerkeep.PpsJust': WHATEVER THE INPUT: true; the input reads as it did. -/
def ppsJustSpec : ChangeSpec := { name := "ppsJust", fn := fun _ => fun
  | [d1, d2] => { results := [.lit (.bool true)], args := [d1, d2] }
  | _ => none }
def ppsJustRow : OpenClaim := { program := "ythkbcgafpaomnaa", sum := "2117f442013c1b4111bc74d9407679c27021cd372d8be19e6860c78b7969fc10", func := "lotdrawer/lotdrawerkeep.PpsJust", spec := "ppsJust", apart := false }
def PpsJustSaid : Prop := ppsJustRow.holds Try.pinned (OpenSpec.ofChange ppsJustSpec)

/-- ITS FALSE NEIGHBOUR: 'it returns false'. Refute it at one input. -/
def ppsJustWrong : ChangeSpec := { name := "ppsJust", fn := fun _ => fun
  | [d1, d2] => { results := [.lit (.bool false)], args := [d1, d2] }
  | _ => none }
def PpsJustWrongFalsely : Prop := ppsJustRow.holds Try.pinned (OpenSpec.ofChange ppsJustWrong)

/-- 'lotdrawerkeep.PpsMany': WHATEVER THE INPUT: true; the input reads as it did. -/
def ppsManySpec : ChangeSpec := { name := "ppsMany", fn := fun _ => fun
  | [d1, d2, d3] => { results := [.lit (.bool true)], args := [d1, d2, d3] }
  | _ => none }
def ppsManyRow : OpenClaim := { program := "ythkbcgafpaomnaa", sum := "2117f442013c1b4111bc74d9407679c27021cd372d8be19e6860c78b7969fc10", func := "lotdrawer/lotdrawerkeep.PpsMany", spec := "ppsMany", apart := false }
def PpsManySaid : Prop := ppsManyRow.holds Try.pinned (OpenSpec.ofChange ppsManySpec)

/-- ITS FALSE NEIGHBOUR: 'it returns false'. Refute it at one input. -/
def ppsManyWrong : ChangeSpec := { name := "ppsMany", fn := fun _ => fun
  | [d1, d2, d3] => { results := [.lit (.bool false)], args := [d1, d2, d3] }
  | _ => none }
def PpsManyWrongFalsely : Prop := ppsManyRow.holds Try.pinned (OpenSpec.ofChange ppsManyWrong)

/- THE SECOND FORM. 'bulk': how many values and letters a reading holds, each counted each time it is reached (what is shared counts as often as it is met; a slice's spare places count too). A statement '..UptoSaid' is the law's where the arguments, and the package variables that the reading takes, are together of bulk at most 1048576: NARROWER than '..Said'. Prove '..Said' where nothing that the law and all that it calls make is longer than what came in: it says more and counts as full. Else prove '..UptoSaid'. A law counts once. -/
mutual
def uptoBulk {H : Type} : DataW H → Nat
  | .lit (.string bytes) => bytes.length + 1
  | .lit _ => 1
  | .nil => 1
  | .ptr d => uptoBulk d + 1
  | .slice elems spare => uptoBulkAll elems + uptoBulkAll spare + 1
  | .agg parts => uptoBulkAll parts + 1
  | .iface _ d => uptoBulk d + 1
  | .map entries => uptoBulkEntries entries + 1
  | .held _ => 1
def uptoBulkAll {H : Type} : List (DataW H) → Nat
  | [] => 0
  | d :: r => uptoBulk d + uptoBulkAll r
def uptoBulkEntries {H : Type} : List (Lit × DataW H) → Nat
  | [] => 0
  | x :: r => uptoBulkEntry x + uptoBulkEntries r
def uptoBulkEntry {H : Type} : Lit × DataW H → Nat
  | (.string bytes, d) => bytes.length + uptoBulk d + 1
  | (_, d) => uptoBulk d + 1
 end
def uptoSmall : (H : Type) → List (DataW H) → Bool := fun _ ds => decide (uptoBulkAll ds ≤ 1048576)
def OpenSpec.upto (s : _root_.Go.ChangeSpec) : _root_.Go.OpenSpec := { _root_.Go.OpenSpec.ofChange s with cond := some uptoSmall }

/-- 'lotdrawerkeep.PpsNear', WHERE WHAT IT READS IS OF BULK AT MOST 1048576: true; the input reads as it did. -/
def ppsNearUptoRow : OpenClaim := { program := "ythkbcgafpaomnaa", sum := "2117f442013c1b4111bc74d9407679c27021cd372d8be19e6860c78b7969fc10", func := "lotdrawer/lotdrawerkeep.PpsNear", spec := "ppsNear", apart := false, narrowed := true }
def PpsNearUptoSaid : Prop := ppsNearUptoRow.holds Try.pinned (OpenSpec.upto ppsNearSpec)

/-- 'lotdrawerkeep.PpsScale', WHERE WHAT IT READS IS OF BULK AT MOST 1048576: true; the input reads as it did. -/
def ppsScaleUptoRow : OpenClaim := { program := "ythkbcgafpaomnaa", sum := "2117f442013c1b4111bc74d9407679c27021cd372d8be19e6860c78b7969fc10", func := "lotdrawer/lotdrawerkeep.PpsScale", spec := "ppsScale", apart := false, narrowed := true }
def PpsScaleUptoSaid : Prop := ppsScaleUptoRow.holds Try.pinned (OpenSpec.upto ppsScaleSpec)

/-- 'lotdrawerkeep.PpsJust', WHERE WHAT IT READS IS OF BULK AT MOST 1048576: true; the input reads as it did. -/
def ppsJustUptoRow : OpenClaim := { program := "ythkbcgafpaomnaa", sum := "2117f442013c1b4111bc74d9407679c27021cd372d8be19e6860c78b7969fc10", func := "lotdrawer/lotdrawerkeep.PpsJust", spec := "ppsJust", apart := false, narrowed := true }
def PpsJustUptoSaid : Prop := ppsJustUptoRow.holds Try.pinned (OpenSpec.upto ppsJustSpec)

/-- 'lotdrawerkeep.PpsMany', WHERE WHAT IT READS IS OF BULK AT MOST 1048576: true; the input reads as it did. -/
def ppsManyUptoRow : OpenClaim := { program := "ythkbcgafpaomnaa", sum := "2117f442013c1b4111bc74d9407679c27021cd372d8be19e6860c78b7969fc10", func := "lotdrawer/lotdrawerkeep.PpsMany", spec := "ppsMany", apart := false, narrowed := true }
def PpsManyUptoSaid : Prop := ppsManyUptoRow.holds Try.pinned (OpenSpec.upto ppsManySpec)

end Rows
end Go.Proofs.Ythkbcgafpaomnaa
