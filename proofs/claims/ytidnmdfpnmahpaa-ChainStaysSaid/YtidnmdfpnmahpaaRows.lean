/-
  No cell of these rows narrows 'for every input' (looked for: loops, veiled, ifaces, maps, wideKeys, modest, calm, conditions, laid).
  DERIVED. THE GIVEN ROWS OF THIS SEAT. 5 by the template 'for every input the law returns true; each argument reads behind the call as it read before'; 0 by the template 'total and deterministic' (their statements: YtidnmdfpnmahpaaTotals.lean).
  GIVEN WITH THE SEED: the statements are not yours to turn. If you find one false, say at which input.
  Laid BY PROGRAM, IN A SANDBOX (cutbox-rows.mjs): the forced cells as the released guide's own fill.sh prints them over the translation 88987b9899a7f172… (all of the seat's roots in one cut). By AI agents, Wed Nov 11 2026. No macro, syntax, notation, axiom, sorry.
-/
import Derived.Test.YtidnmdfpnmahpaaChecked
import GoSem.Claim
import GoSem.ClaimJoined
import GoSem.ClaimMapViews
import Derived.JoinedTies
import Derived.KernelRfl
namespace Go.Proofs.Ytidnmdfpnmahpaa
/- THE CELL 'sum', in the pinned program and in every row, IS THE sha256 OF THE DUMP (.gsa) THAT YtidnmdfpnmahpaaProg.lean LOADS. Nothing in Lean hashes anything: it is a label: what it is worth is what the hold of that sum in a sandbox is worth. -/
noncomputable def Try.pinned : Pinned := { name := "ytidnmdfpnmahpaa", sum := "88987b9899a7f172150baa5e8359715f4b4e567c5629c0d9e702268b95cb983d", checked := Try.checked }
namespace Rows
def none {H : Type} : Left H := { results := [], args := [] }

/-- 'lotdrawerkeep.ChainStays': WHATEVER THE INPUT: true; the input reads as it did. -/
def chainStaysSpec : ChangeSpec := { name := "chainStays", fn := fun _ => fun
  | [d] => { results := [.lit (.bool true)], args := [d] }
  | _ => none }
def chainStaysRow : OpenClaim := { program := "ytidnmdfpnmahpaa", sum := "88987b9899a7f172150baa5e8359715f4b4e567c5629c0d9e702268b95cb983d", func := "lotdrawer/lotdrawerkeep.ChainStays", spec := "chainStays", recurses := true, apart := false }
def ChainStaysSaid : Prop := chainStaysRow.holds Try.pinned (OpenSpec.ofChange chainStaysSpec)

/-- ITS FALSE NEIGHBOUR: 'it returns false'. Refute it at one input. -/
def chainStaysWrong : ChangeSpec := { name := "chainStays", fn := fun _ => fun
  | [d] => { results := [.lit (.bool false)], args := [d] }
  | _ => none }
def ChainStaysWrongFalsely : Prop := chainStaysRow.holds Try.pinned (OpenSpec.ofChange chainStaysWrong)

/-- 'lotdrawerkeep.ChainBack': WHATEVER THE INPUT: true; the input reads as it did. -/
def chainBackSpec : ChangeSpec := { name := "chainBack", fn := fun _ => fun
  | [d] => { results := [.lit (.bool true)], args := [d] }
  | _ => none }
def chainBackRow : OpenClaim := { program := "ytidnmdfpnmahpaa", sum := "88987b9899a7f172150baa5e8359715f4b4e567c5629c0d9e702268b95cb983d", func := "lotdrawer/lotdrawerkeep.ChainBack", spec := "chainBack", recurses := true, apart := false }
def ChainBackSaid : Prop := chainBackRow.holds Try.pinned (OpenSpec.ofChange chainBackSpec)

/-- ITS FALSE NEIGHBOUR: 'it returns false'. Refute it at one input. -/
def chainBackWrong : ChangeSpec := { name := "chainBack", fn := fun _ => fun
  | [d] => { results := [.lit (.bool false)], args := [d] }
  | _ => none }
def ChainBackWrongFalsely : Prop := chainBackRow.holds Try.pinned (OpenSpec.ofChange chainBackWrong)

/-- 'lotdrawerkeep.ChainJust': WHATEVER THE INPUT: true; the input reads as it did. -/
def chainJustSpec : ChangeSpec := { name := "chainJust", fn := fun _ => fun
  | [d1, d2] => { results := [.lit (.bool true)], args := [d1, d2] }
  | _ => none }
def chainJustRow : OpenClaim := { program := "ytidnmdfpnmahpaa", sum := "88987b9899a7f172150baa5e8359715f4b4e567c5629c0d9e702268b95cb983d", func := "lotdrawer/lotdrawerkeep.ChainJust", spec := "chainJust", recurses := true, apart := false }
def ChainJustSaid : Prop := chainJustRow.holds Try.pinned (OpenSpec.ofChange chainJustSpec)

/-- ITS FALSE NEIGHBOUR: 'it returns false'. Refute it at one input. -/
def chainJustWrong : ChangeSpec := { name := "chainJust", fn := fun _ => fun
  | [d1, d2] => { results := [.lit (.bool false)], args := [d1, d2] }
  | _ => none }
def ChainJustWrongFalsely : Prop := chainJustRow.holds Try.pinned (OpenSpec.ofChange chainJustWrong)

/-- 'lotdrawerkeep.ChainScale': WHATEVER THE INPUT: true; the input reads as it did. -/
def chainScaleSpec : ChangeSpec := { name := "chainScale", fn := fun _ => fun
  | [d1, d2, d3] => { results := [.lit (.bool true)], args := [d1, d2, d3] }
  | _ => none }
def chainScaleRow : OpenClaim := { program := "ytidnmdfpnmahpaa", sum := "88987b9899a7f172150baa5e8359715f4b4e567c5629c0d9e702268b95cb983d", func := "lotdrawer/lotdrawerkeep.ChainScale", spec := "chainScale", recurses := true, apart := false }
def ChainScaleSaid : Prop := chainScaleRow.holds Try.pinned (OpenSpec.ofChange chainScaleSpec)

/-- ITS FALSE NEIGHBOUR: 'it returns false'. Refute it at one input. -/
def chainScaleWrong : ChangeSpec := { name := "chainScale", fn := fun _ => fun
  | [d1, d2, d3] => { results := [.lit (.bool false)], args := [d1, d2, d3] }
  | _ => none }
def ChainScaleWrongFalsely : Prop := chainScaleRow.holds Try.pinned (OpenSpec.ofChange chainScaleWrong)

/-- 'lotdrawerkeep.ChainParts': WHATEVER THE INPUT: true; the input reads as it did. -/
def chainPartsSpec : ChangeSpec := { name := "chainParts", fn := fun _ => fun
  | [d1, d2, d3, d4] => { results := [.lit (.bool true)], args := [d1, d2, d3, d4] }
  | _ => none }
def chainPartsRow : OpenClaim := { program := "ytidnmdfpnmahpaa", sum := "88987b9899a7f172150baa5e8359715f4b4e567c5629c0d9e702268b95cb983d", func := "lotdrawer/lotdrawerkeep.ChainParts", spec := "chainParts", recurses := true, apart := false }
def ChainPartsSaid : Prop := chainPartsRow.holds Try.pinned (OpenSpec.ofChange chainPartsSpec)

/-- ITS FALSE NEIGHBOUR: 'it returns false'. Refute it at one input. -/
def chainPartsWrong : ChangeSpec := { name := "chainParts", fn := fun _ => fun
  | [d1, d2, d3, d4] => { results := [.lit (.bool false)], args := [d1, d2, d3, d4] }
  | _ => none }
def ChainPartsWrongFalsely : Prop := chainPartsRow.holds Try.pinned (OpenSpec.ofChange chainPartsWrong)

/- THE SECOND FORM. 'bulk': how many values and letters a reading holds, each counted each time it is reached (what is shared counts as often as it is met; a slice's spare places count too). A statement '..UptoSaid' is the law's where the arguments, and the package variables that the reading takes, are together of bulk at most 1048576: NARROWER than '..Said'. Prove '..Said' where nothing that the law and all that it calls make is longer than what came in: it says more and counts as full. Else prove '..UptoSaid'. A law counts once. -/
mutual
def uptoBulk {H : Type} : DataW H → Nat
  | .lit (.string bytes) => bytes.length + 1
  | .lit _ => 1
  | .nil => 1
  | .ptr d => uptoBulk d + 1
  | .slice elems spare => uptoBulkAll elems + uptoBulkAll spare + 1
  | .agg parts => uptoBulkAll parts + 1
  | .iface _ d => uptoBulk d + 1
  | .map entries => uptoBulkEntries entries + 1
  | .held _ => 1
def uptoBulkAll {H : Type} : List (DataW H) → Nat
  | [] => 0
  | d :: r => uptoBulk d + uptoBulkAll r
def uptoBulkEntries {H : Type} : List (Lit × DataW H) → Nat
  | [] => 0
  | x :: r => uptoBulkEntry x + uptoBulkEntries r
def uptoBulkEntry {H : Type} : Lit × DataW H → Nat
  | (.string bytes, d) => bytes.length + uptoBulk d + 1
  | (_, d) => uptoBulk d + 1
 end
def uptoSmall : (H : Type) → List (DataW H) → Bool := fun _ ds => decide (uptoBulkAll ds ≤ 1048576)
def OpenSpec.upto (s : _root_.Go.ChangeSpec) : _root_.Go.OpenSpec := { _root_.Go.OpenSpec.ofChange s with cond := some uptoSmall }

/-- 'lotdrawerkeep.ChainStays', WHERE WHAT IT READS IS OF BULK AT MOST 1048576: true; the input reads as it did. -/
def chainStaysUptoRow : OpenClaim := { program := "ytidnmdfpnmahpaa", sum := "88987b9899a7f172150baa5e8359715f4b4e567c5629c0d9e702268b95cb983d", func := "lotdrawer/lotdrawerkeep.ChainStays", spec := "chainStays", recurses := true, apart := false, narrowed := true }
def ChainStaysUptoSaid : Prop := chainStaysUptoRow.holds Try.pinned (OpenSpec.upto chainStaysSpec)

/-- 'lotdrawerkeep.ChainBack', WHERE WHAT IT READS IS OF BULK AT MOST 1048576: true; the input reads as it did. -/
def chainBackUptoRow : OpenClaim := { program := "ytidnmdfpnmahpaa", sum := "88987b9899a7f172150baa5e8359715f4b4e567c5629c0d9e702268b95cb983d", func := "lotdrawer/lotdrawerkeep.ChainBack", spec := "chainBack", recurses := true, apart := false, narrowed := true }
def ChainBackUptoSaid : Prop := chainBackUptoRow.holds Try.pinned (OpenSpec.upto chainBackSpec)

/-- 'lotdrawerkeep.ChainJust', WHERE WHAT IT READS IS OF BULK AT MOST 1048576: true; the input reads as it did. -/
def chainJustUptoRow : OpenClaim := { program := "ytidnmdfpnmahpaa", sum := "88987b9899a7f172150baa5e8359715f4b4e567c5629c0d9e702268b95cb983d", func := "lotdrawer/lotdrawerkeep.ChainJust", spec := "chainJust", recurses := true, apart := false, narrowed := true }
def ChainJustUptoSaid : Prop := chainJustUptoRow.holds Try.pinned (OpenSpec.upto chainJustSpec)

/-- 'lotdrawerkeep.ChainScale', WHERE WHAT IT READS IS OF BULK AT MOST 1048576: true; the input reads as it did. -/
def chainScaleUptoRow : OpenClaim := { program := "ytidnmdfpnmahpaa", sum := "88987b9899a7f172150baa5e8359715f4b4e567c5629c0d9e702268b95cb983d", func := "lotdrawer/lotdrawerkeep.ChainScale", spec := "chainScale", recurses := true, apart := false, narrowed := true }
def ChainScaleUptoSaid : Prop := chainScaleUptoRow.holds Try.pinned (OpenSpec.upto chainScaleSpec)

/-- 'lotdrawerkeep.ChainParts', WHERE WHAT IT READS IS OF BULK AT MOST 1048576: true; the input reads as it did. -/
def chainPartsUptoRow : OpenClaim := { program := "ytidnmdfpnmahpaa", sum := "88987b9899a7f172150baa5e8359715f4b4e567c5629c0d9e702268b95cb983d", func := "lotdrawer/lotdrawerkeep.ChainParts", spec := "chainParts", recurses := true, apart := false, narrowed := true }
def ChainPartsUptoSaid : Prop := chainPartsUptoRow.holds Try.pinned (OpenSpec.upto chainPartsSpec)

end Rows
end Go.Proofs.Ytidnmdfpnmahpaa
