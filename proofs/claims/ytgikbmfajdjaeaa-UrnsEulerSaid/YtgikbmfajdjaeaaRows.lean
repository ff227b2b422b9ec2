/-
  No cell of these rows narrows 'for every input' (looked for: loops, veiled, ifaces, maps, wideKeys, modest, calm, conditions, laid).
  DERIVED. THE GIVEN ROWS OF THIS SEAT. 5 by the template 'for every input the law returns true; each argument reads behind the call as it read before'; 0 by the template 'total and deterministic' (their statements: YtgikbmfajdjaeaaTotals.lean).
  GIVEN WITH THE SEED: the statements are not yours to turn. If you find one false, say at which input.
  Laid BY PROGRAM, IN A SANDBOX (cutbox-rows.mjs): the forced cells as the released guide's own fill.sh prints them over the translation 6ef5d3adebc7f85d… (all of the seat's roots in one cut). By AI agents, Wed Nov 11 2026. No macro, syntax, notation, axiom, sorry.
-/
import Derived.Test.YtgikbmfajdjaeaaChecked
import GoSem.Claim
import GoSem.ClaimJoined
import GoSem.ClaimMapViews
import Derived.JoinedTies
import Derived.KernelRfl
namespace Go.Proofs.Ytgikbmfajdjaeaa
/- THE CELL 'sum', in the pinned program and in every row, IS THE sha256 OF THE DUMP (.gsa) THAT YtgikbmfajdjaeaaProg.lean LOADS. Nothing in Lean hashes anything: it is a label: what it is worth is what the hold of that sum in a sandbox is worth. -/
noncomputable def Try.pinned : Pinned := { name := "ytgikbmfajdjaeaa", sum := "6ef5d3adebc7f85db2221bbf3034342038612014b6763812cc59eb27b33be8d6", checked := Try.checked }
namespace Rows
def none {H : Type} : Left H := { results := [], args := [] }

/-- 'lotdrawerkeep.UrnsAll': WHATEVER THE INPUT: true; the input reads as it did. -/
def urnsAllSpec : ChangeSpec := { name := "urnsAll", fn := fun _ => fun
  | [d1, d2] => { results := [.lit (.bool true)], args := [d1, d2] }
  | _ => none }
def urnsAllRow : OpenClaim := { program := "ytgikbmfajdjaeaa", sum := "6ef5d3adebc7f85db2221bbf3034342038612014b6763812cc59eb27b33be8d6", func := "lotdrawer/lotdrawerkeep.UrnsAll", spec := "urnsAll", apart := false }
def UrnsAllSaid : Prop := urnsAllRow.holds Try.pinned (OpenSpec.ofChange urnsAllSpec)

/-- ITS FALSE NEIGHBOUR: 'it returns false'. Refute it at one input. -/
def urnsAllWrong : ChangeSpec := { name := "urnsAll", fn := fun _ => fun
  | [d1, d2] => { results := [.lit (.bool false)], args := [d1, d2] }
  | _ => none }
def UrnsAllWrongFalsely : Prop := urnsAllRow.holds Try.pinned (OpenSpec.ofChange urnsAllWrong)

/-- 'lotdrawerkeep.UrnsWrong': WHATEVER THE INPUT: true; the input reads as it did. -/
def urnsWrongSpec : ChangeSpec := { name := "urnsWrong", fn := fun _ => fun
  | [d] => { results := [.lit (.bool true)], args := [d] }
  | _ => none }
def urnsWrongRow : OpenClaim := { program := "ytgikbmfajdjaeaa", sum := "6ef5d3adebc7f85db2221bbf3034342038612014b6763812cc59eb27b33be8d6", func := "lotdrawer/lotdrawerkeep.UrnsWrong", spec := "urnsWrong", recurses := true, apart := false }
def UrnsWrongSaid : Prop := urnsWrongRow.holds Try.pinned (OpenSpec.ofChange urnsWrongSpec)

/-- ITS FALSE NEIGHBOUR: 'it returns false'. Refute it at one input. -/
def urnsWrongWrong : ChangeSpec := { name := "urnsWrong", fn := fun _ => fun
  | [d] => { results := [.lit (.bool false)], args := [d] }
  | _ => none }
def UrnsWrongWrongFalsely : Prop := urnsWrongRow.holds Try.pinned (OpenSpec.ofChange urnsWrongWrong)

/-- 'lotdrawerkeep.UrnsBell': WHATEVER THE INPUT: true; the input reads as it did. -/
def urnsBellSpec : ChangeSpec := { name := "urnsBell", fn := fun _ => fun
  | [d] => { results := [.lit (.bool true)], args := [d] }
  | _ => none }
def urnsBellRow : OpenClaim := { program := "ytgikbmfajdjaeaa", sum := "6ef5d3adebc7f85db2221bbf3034342038612014b6763812cc59eb27b33be8d6", func := "lotdrawer/lotdrawerkeep.UrnsBell", spec := "urnsBell", apart := false }
def UrnsBellSaid : Prop := urnsBellRow.holds Try.pinned (OpenSpec.ofChange urnsBellSpec)

/-- ITS FALSE NEIGHBOUR: 'it returns false'. Refute it at one input. -/
def urnsBellWrong : ChangeSpec := { name := "urnsBell", fn := fun _ => fun
  | [d] => { results := [.lit (.bool false)], args := [d] }
  | _ => none }
def UrnsBellWrongFalsely : Prop := urnsBellRow.holds Try.pinned (OpenSpec.ofChange urnsBellWrong)

/-- 'lotdrawerkeep.UrnsEuler': WHATEVER THE INPUT: true; the input reads as it did. -/
def urnsEulerSpec : ChangeSpec := { name := "urnsEuler", fn := fun _ => fun
  | [d1, d2] => { results := [.lit (.bool true)], args := [d1, d2] }
  | _ => none }
def urnsEulerRow : OpenClaim := { program := "ytgikbmfajdjaeaa", sum := "6ef5d3adebc7f85db2221bbf3034342038612014b6763812cc59eb27b33be8d6", func := "lotdrawer/lotdrawerkeep.UrnsEuler", spec := "urnsEuler", apart := false }
def UrnsEulerSaid : Prop := urnsEulerRow.holds Try.pinned (OpenSpec.ofChange urnsEulerSpec)

/-- ITS FALSE NEIGHBOUR: 'it returns false'. Refute it at one input. -/
def urnsEulerWrong : ChangeSpec := { name := "urnsEuler", fn := fun _ => fun
  | [d1, d2] => { results := [.lit (.bool false)], args := [d1, d2] }
  | _ => none }
def UrnsEulerWrongFalsely : Prop := urnsEulerRow.holds Try.pinned (OpenSpec.ofChange urnsEulerWrong)

/-- 'lotdrawerkeep.UrnsSpread': WHATEVER THE INPUT: true; the input reads as it did. -/
def urnsSpreadSpec : ChangeSpec := { name := "urnsSpread", fn := fun _ => fun
  | [d1, d2] => { results := [.lit (.bool true)], args := [d1, d2] }
  | _ => none }
def urnsSpreadRow : OpenClaim := { program := "ytgikbmfajdjaeaa", sum := "6ef5d3adebc7f85db2221bbf3034342038612014b6763812cc59eb27b33be8d6", func := "lotdrawer/lotdrawerkeep.UrnsSpread", spec := "urnsSpread", apart := false }
def UrnsSpreadSaid : Prop := urnsSpreadRow.holds Try.pinned (OpenSpec.ofChange urnsSpreadSpec)

/-- ITS FALSE NEIGHBOUR: 'it returns false'. Refute it at one input. -/
def urnsSpreadWrong : ChangeSpec := { name := "urnsSpread", fn := fun _ => fun
  | [d1, d2] => { results := [.lit (.bool false)], args := [d1, d2] }
  | _ => none }
def UrnsSpreadWrongFalsely : Prop := urnsSpreadRow.holds Try.pinned (OpenSpec.ofChange urnsSpreadWrong)

/- THE SECOND FORM. 'bulk': how many values and letters a reading holds, each counted each time it is reached (what is shared counts as often as it is met; a slice's spare places count too). A statement '..UptoSaid' is the law's where the arguments, and the package variables that the reading takes, are together of bulk at most 1048576: NARROWER than '..Said'. Prove '..Said' where nothing that the law and all that it calls make is longer than what came in: it says more and counts as full. Else prove '..UptoSaid'. A law counts once. -/
mutual
def uptoBulk {H : Type} : DataW H → Nat
  | .lit (.string bytes) => bytes.length + 1
  | .lit _ => 1
  | .nil => 1
  | .ptr d => uptoBulk d + 1
  | .slice elems spare => uptoBulkAll elems + uptoBulkAll spare + 1
  | .agg parts => uptoBulkAll parts + 1
  | .iface _ d => uptoBulk d + 1
  | .map entries => uptoBulkEntries entries + 1
  | .held _ => 1
def uptoBulkAll {H : Type} : List (DataW H) → Nat
  | [] => 0
  | d :: r => uptoBulk d + uptoBulkAll r
def uptoBulkEntries {H : Type} : List (Lit × DataW H) → Nat
  | [] => 0
  | x :: r => uptoBulkEntry x + uptoBulkEntries r
def uptoBulkEntry {H : Type} : Lit × DataW H → Nat
  | (.string bytes, d) => bytes.length + uptoBulk d + 1
  | (_, d) => uptoBulk d + 1
 end
def uptoSmall : (H : Type) → List (DataW H) → Bool := fun _ ds => decide (uptoBulkAll ds ≤ 1048576)
def OpenSpec.upto (s : _root_.Go.ChangeSpec) : _root_.Go.OpenSpec := { _root_.Go.OpenSpec.ofChange s with cond := some uptoSmall }

/-- 'lotdrawerkeep.UrnsAll', WHERE WHAT IT READS IS OF BULK AT MOST 1048576: true; the input reads as it did. -/
def urnsAllUptoRow : OpenClaim := { program := "ytgikbmfajdjaeaa", sum := "6ef5d3adebc7f85db2221bbf3034342038612014b6763812cc59eb27b33be8d6", func := "lotdrawer/lotdrawerkeep.UrnsAll", spec := "urnsAll", apart := false, narrowed := true }
def UrnsAllUptoSaid : Prop := urnsAllUptoRow.holds Try.pinned (OpenSpec.upto urnsAllSpec)

/-- 'lotdrawerkeep.UrnsWrong', WHERE WHAT IT READS IS OF BULK AT MOST 1048576: true; the input reads as it did. -/
def urnsWrongUptoRow : OpenClaim := { program := "ytgikbmfajdjaeaa", sum := "6ef5d3adebc7f85db2221bbf3034342038612014b6763812cc59eb27b33be8d6", func := "lotdrawer/lotdrawerkeep.UrnsWrong", spec := "urnsWrong", recurses := true, apart := false, narrowed := true }
def UrnsWrongUptoSaid : Prop := urnsWrongUptoRow.holds Try.pinned (OpenSpec.upto urnsWrongSpec)

/-- 'lotdrawerkeep.UrnsBell', WHERE WHAT IT READS IS OF BULK AT MOST 1048576: true; the input reads as it did. -/
def urnsBellUptoRow : OpenClaim := { program := "ytgikbmfajdjaeaa", sum := "6ef5d3adebc7f85db2221bbf3034342038612014b6763812cc59eb27b33be8d6", func := "lotdrawer/lotdrawerkeep.UrnsBell", spec := "urnsBell", apart := false, narrowed := true }
def UrnsBellUptoSaid : Prop := urnsBellUptoRow.holds Try.pinned (OpenSpec.upto urnsBellSpec)

/-- 'lotdrawerkeep.UrnsEuler', WHERE WHAT IT READS IS OF BULK AT MOST 1048576: true; the input reads as it did. -/
def urnsEulerUptoRow : OpenClaim := { program := "ytgikbmfajdjaeaa", sum := "6ef5d3adebc7f85db2221bbf3034342038612014b6763812cc59eb27b33be8d6", func := "lotdrawer/lotdrawerkeep.UrnsEuler", spec := "urnsEuler", apart := false, narrowed := true }
def UrnsEulerUptoSaid : Prop := urnsEulerUptoRow.holds Try.pinned (OpenSpec.upto urnsEulerSpec)

/-- 'lotdrawerkeep.UrnsSpread', WHERE WHAT IT READS IS OF BULK AT MOST 1048576: true; the input reads as it did. -/
def urnsSpreadUptoRow : OpenClaim := { program := "ytgikbmfajdjaeaa", sum := "6ef5d3adebc7f85db2221bbf3034342038612014b6763812cc59eb27b33be8d6", func := "lotdrawer/lotdrawerkeep.UrnsSpread", spec := "urnsSpread", apart := false, narrowed := true }
def UrnsSpreadUptoSaid : Prop := urnsSpreadUptoRow.holds Try.pinned (OpenSpec.upto urnsSpreadSpec)

end Rows
end Go.Proofs.Ytgikbmfajdjaeaa
