/-
  No cell of these rows narrows 'for every input' (looked for: loops, veiled, ifaces, maps, wideKeys, modest, calm, conditions, laid).
  DERIVED. THE GIVEN ROWS OF THIS SEAT. 5 by the template 'for every input the law returns true; each argument reads behind the call as it read before'; 0 by the template 'total and deterministic' (their statements: YtkppkfbgolmonaaTotals.lean).
  GIVEN WITH THE SEED: the statements are not yours to turn. If you find one false, say at which input.
  Laid BY PROGRAM, IN A SANDBOX (cutbox-rows.mjs): the forced cells as the released guide's own fill.sh prints them over the translation 93f5165f45c450fa… (all of the seat's roots in one cut). By AI agents, Wed Nov 11 2026. No macro, syntax, notation, axiom, sorry.
-/
import Derived.Test.YtkppkfbgolmonaaChecked
import GoSem.Claim
import GoSem.ClaimJoined
import GoSem.ClaimMapViews
import Derived.JoinedTies
import Derived.KernelRfl
namespace Go.Proofs.Ytkppkfbgolmonaa
/- THE CELL 'sum', in the pinned program and in every row, IS THE sha256 OF THE DUMP (.gsa) THAT YtkppkfbgolmonaaProg.lean LOADS. Nothing in Lean hashes anything: it is a label: what it is worth is what the hold of that sum in a sandbox is worth. -/
noncomputable def Try.pinned : Pinned := { name := "ytkppkfbgolmonaa", sum := "93f5165f45c450fa9c5cb7d378b50cf5c0a2a9d1e76a469970f640db699e1482", checked := Try.checked }
namespace Rows
def none {H : Type} : Left H := { results := [], args := [] }

/-- 'lotdrawerkeep.RuinHarmonic': WHATEVER THE INPUT: true; the input reads as it did. -/
def ruinHarmonicSpec : ChangeSpec := { name := "ruinHarmonic", fn := fun _ => fun
  | [d1, d2, d3, d4] => { results := [.lit (.bool true)], args := [d1, d2, d3, d4] }
  | _ => none }
def ruinHarmonicRow : OpenClaim := { program := "ytkppkfbgolmonaa", sum := "93f5165f45c450fa9c5cb7d378b50cf5c0a2a9d1e76a469970f640db699e1482", func := "lotdrawer/lotdrawerkeep.RuinHarmonic", spec := "ruinHarmonic", apart := false }
def RuinHarmonicSaid : Prop := ruinHarmonicRow.holds Try.pinned (OpenSpec.ofChange ruinHarmonicSpec)

/-- ITS FALSE NEIGHBOUR: 'it returns false'. Refute it at one input. -/
def ruinHarmonicWrong : ChangeSpec := { name := "ruinHarmonic", fn := fun _ => fun
  | [d1, d2, d3, d4] => { results := [.lit (.bool false)], args := [d1, d2, d3, d4] }
  | _ => none }
def RuinHarmonicWrongFalsely : Prop := ruinHarmonicRow.holds Try.pinned (OpenSpec.ofChange ruinHarmonicWrong)

/-- 'lotdrawerkeep.RuinOther': WHATEVER THE INPUT: true; the input reads as it did. -/
def ruinOtherSpec : ChangeSpec := { name := "ruinOther", fn := fun _ => fun
  | [d1, d2, d3, d4] => { results := [.lit (.bool true)], args := [d1, d2, d3, d4] }
  | _ => none }
def ruinOtherRow : OpenClaim := { program := "ytkppkfbgolmonaa", sum := "93f5165f45c450fa9c5cb7d378b50cf5c0a2a9d1e76a469970f640db699e1482", func := "lotdrawer/lotdrawerkeep.RuinOther", spec := "ruinOther", apart := false }
def RuinOtherSaid : Prop := ruinOtherRow.holds Try.pinned (OpenSpec.ofChange ruinOtherSpec)

/-- ITS FALSE NEIGHBOUR: 'it returns false'. Refute it at one input. -/
def ruinOtherWrong : ChangeSpec := { name := "ruinOther", fn := fun _ => fun
  | [d1, d2, d3, d4] => { results := [.lit (.bool false)], args := [d1, d2, d3, d4] }
  | _ => none }
def RuinOtherWrongFalsely : Prop := ruinOtherRow.holds Try.pinned (OpenSpec.ofChange ruinOtherWrong)

/-- 'lotdrawerkeep.RuinMore': WHATEVER THE INPUT: true; the input reads as it did. -/
def ruinMoreSpec : ChangeSpec := { name := "ruinMore", fn := fun _ => fun
  | [d1, d2, d3, d4] => { results := [.lit (.bool true)], args := [d1, d2, d3, d4] }
  | _ => none }
def ruinMoreRow : OpenClaim := { program := "ytkppkfbgolmonaa", sum := "93f5165f45c450fa9c5cb7d378b50cf5c0a2a9d1e76a469970f640db699e1482", func := "lotdrawer/lotdrawerkeep.RuinMore", spec := "ruinMore", unfollowed := true, recurses := true, apart := false }
def RuinMoreSaid : Prop := ruinMoreRow.holds Try.pinned (OpenSpec.ofChange ruinMoreSpec)

/-- ITS FALSE NEIGHBOUR: 'it returns false'. Refute it at one input. -/
def ruinMoreWrong : ChangeSpec := { name := "ruinMore", fn := fun _ => fun
  | [d1, d2, d3, d4] => { results := [.lit (.bool false)], args := [d1, d2, d3, d4] }
  | _ => none }
def RuinMoreWrongFalsely : Prop := ruinMoreRow.holds Try.pinned (OpenSpec.ofChange ruinMoreWrong)

/-- 'lotdrawerkeep.RuinCount': WHATEVER THE INPUT: true; the input reads as it did. -/
def ruinCountSpec : ChangeSpec := { name := "ruinCount", fn := fun _ => fun
  | [d1, d2, d3] => { results := [.lit (.bool true)], args := [d1, d2, d3] }
  | _ => none }
def ruinCountRow : OpenClaim := { program := "ytkppkfbgolmonaa", sum := "93f5165f45c450fa9c5cb7d378b50cf5c0a2a9d1e76a469970f640db699e1482", func := "lotdrawer/lotdrawerkeep.RuinCount", spec := "ruinCount", apart := false }
def RuinCountSaid : Prop := ruinCountRow.holds Try.pinned (OpenSpec.ofChange ruinCountSpec)

/-- ITS FALSE NEIGHBOUR: 'it returns false'. Refute it at one input. -/
def ruinCountWrong : ChangeSpec := { name := "ruinCount", fn := fun _ => fun
  | [d1, d2, d3] => { results := [.lit (.bool false)], args := [d1, d2, d3] }
  | _ => none }
def RuinCountWrongFalsely : Prop := ruinCountRow.holds Try.pinned (OpenSpec.ofChange ruinCountWrong)

/-- 'lotdrawerkeep.RuinTape': WHATEVER THE INPUT: true; the input reads as it did. -/
def ruinTapeSpec : ChangeSpec := { name := "ruinTape", fn := fun _ => fun
  | [d1, d2, d3, d4] => { results := [.lit (.bool true)], args := [d1, d2, d3, d4] }
  | _ => none }
def ruinTapeRow : OpenClaim := { program := "ytkppkfbgolmonaa", sum := "93f5165f45c450fa9c5cb7d378b50cf5c0a2a9d1e76a469970f640db699e1482", func := "lotdrawer/lotdrawerkeep.RuinTape", spec := "ruinTape", apart := false }
def RuinTapeSaid : Prop := ruinTapeRow.holds Try.pinned (OpenSpec.ofChange ruinTapeSpec)

/-- ITS FALSE NEIGHBOUR: 'it returns false'. Refute it at one input. -/
def ruinTapeWrong : ChangeSpec := { name := "ruinTape", fn := fun _ => fun
  | [d1, d2, d3, d4] => { results := [.lit (.bool false)], args := [d1, d2, d3, d4] }
  | _ => none }
def RuinTapeWrongFalsely : Prop := ruinTapeRow.holds Try.pinned (OpenSpec.ofChange ruinTapeWrong)

/- THE SECOND FORM. 'bulk': how many values and letters a reading holds, each counted each time it is reached (what is shared counts as often as it is met; a slice's spare places count too). A statement '..UptoSaid' is the law's where the arguments, and the package variables that the reading takes, are together of bulk at most 1048576: NARROWER than '..Said'. Prove '..Said' where nothing that the law and all that it calls make is longer than what came in: it says more and counts as full. Else prove '..UptoSaid'. A law counts once. -/
mutual
def uptoBulk {H : Type} : DataW H → Nat
  | .lit (.string bytes) => bytes.length + 1
  | .lit _ => 1
  | .nil => 1
  | .ptr d => uptoBulk d + 1
  | .slice elems spare => uptoBulkAll elems + uptoBulkAll spare + 1
  | .agg parts => uptoBulkAll parts + 1
  | .iface _ d => uptoBulk d + 1
  | .map entries => uptoBulkEntries entries + 1
  | .held _ => 1
def uptoBulkAll {H : Type} : List (DataW H) → Nat
  | [] => 0
  | d :: r => uptoBulk d + uptoBulkAll r
def uptoBulkEntries {H : Type} : List (Lit × DataW H) → Nat
  | [] => 0
  | x :: r => uptoBulkEntry x + uptoBulkEntries r
def uptoBulkEntry {H : Type} : Lit × DataW H → Nat
  | (.string bytes, d) => bytes.length + uptoBulk d + 1
  | (_, d) => uptoBulk d + 1
 end
def uptoSmall : (H : Type) → List (DataW H) → Bool := fun _ ds => decide (uptoBulkAll ds ≤ 1048576)
def OpenSpec.upto (s : _root_.Go.ChangeSpec) : _root_.Go.OpenSpec := { _root_.Go.OpenSpec.ofChange s with cond := some uptoSmall }

/-- 'lotdrawerkeep.RuinHarmonic', WHERE WHAT IT READS IS OF BULK AT MOST 1048576: true; the input reads as it did. -/
def ruinHarmonicUptoRow : OpenClaim := { program := "ytkppkfbgolmonaa", sum := "93f5165f45c450fa9c5cb7d378b50cf5c0a2a9d1e76a469970f640db699e1482", func := "lotdrawer/lotdrawerkeep.RuinHarmonic", spec := "ruinHarmonic", apart := false, narrowed := true }
def RuinHarmonicUptoSaid : Prop := ruinHarmonicUptoRow.holds Try.pinned (OpenSpec.upto ruinHarmonicSpec)

/-- 'lotdrawerkeep.RuinOther', WHERE WHAT IT READS IS OF BULK AT MOST 1048576: true; the input reads as it did. -/
def ruinOtherUptoRow : OpenClaim := { program := "ytkppkfbgolmonaa", sum := "93f5165f45c450fa9c5cb7d378b50cf5c0a2a9d1e76a469970f640db699e1482", func := "lotdrawer/lotdrawerkeep.RuinOther", spec := "ruinOther", apart := false, narrowed := true }
def RuinOtherUptoSaid : Prop := ruinOtherUptoRow.holds Try.pinned (OpenSpec.upto ruinOtherSpec)

/-- 'lotdrawerkeep.RuinMore', WHERE WHAT IT READS IS OF BULK AT MOST 1048576: true; the input reads as it did. -/
def ruinMoreUptoRow : OpenClaim := { program := "ytkppkfbgolmonaa", sum := "93f5165f45c450fa9c5cb7d378b50cf5c0a2a9d1e76a469970f640db699e1482", func := "lotdrawer/lotdrawerkeep.RuinMore", spec := "ruinMore", unfollowed := true, recurses := true, apart := false, narrowed := true }
def RuinMoreUptoSaid : Prop := ruinMoreUptoRow.holds Try.pinned (OpenSpec.upto ruinMoreSpec)

/-- 'lotdrawerkeep.RuinCount', WHERE WHAT IT READS IS OF BULK AT MOST 1048576: true; the input reads as it did. -/
def ruinCountUptoRow : OpenClaim := { program := "ytkppkfbgolmonaa", sum := "93f5165f45c450fa9c5cb7d378b50cf5c0a2a9d1e76a469970f640db699e1482", func := "lotdrawer/lotdrawerkeep.RuinCount", spec := "ruinCount", apart := false, narrowed := true }
def RuinCountUptoSaid : Prop := ruinCountUptoRow.holds Try.pinned (OpenSpec.upto ruinCountSpec)

/-- 'lotdrawerkeep.RuinTape', WHERE WHAT IT READS IS OF BULK AT MOST 1048576: true; the input reads as it did. -/
def ruinTapeUptoRow : OpenClaim := { program := "ytkppkfbgolmonaa", sum := "93f5165f45c450fa9c5cb7d378b50cf5c0a2a9d1e76a469970f640db699e1482", func := "lotdrawer/lotdrawerkeep.RuinTape", spec := "ruinTape", apart := false, narrowed := true }
def RuinTapeUptoSaid : Prop := ruinTapeUptoRow.holds Try.pinned (OpenSpec.upto ruinTapeSpec)

end Rows
end Go.Proofs.Ytkppkfbgolmonaa
