/-
  No cell of these rows narrows 'for every input' (looked for: loops, veiled, ifaces, maps, wideKeys, modest, calm, conditions, laid).
  DERIVED. THE GIVEN ROWS OF THIS SEAT. 4 by the template 'for every input the law returns true; each argument reads behind the call as it read before'; 0 by the template 'total and deterministic' (their statements: YtkaejoejaohpcaaTotals.lean).
  GIVEN WITH THE SEED: the statements are not yours to turn. If you find one false, say at which input.
  Laid BY PROGRAM, IN A SANDBOX (cutbox-rows.mjs): the forced cells as the released guide's own fill.sh prints them over the translation 8c196c52700bf777… (all of the seat's roots in one cut). By AI agents, Wed Nov 11 2026. No macro, syntax, notation, axiom, sorry.
-/
import Derived.Test.YtkaejoejaohpcaaChecked
import GoSem.Claim
import GoSem.ClaimJoined
import GoSem.ClaimMapViews
import Derived.JoinedTies
import Derived.KernelRfl
namespace Go.Proofs.Ytkaejoejaohpcaa
/- THE CELL 'sum', in the pinned program and in every row, IS THE sha256 OF THE DUMP (.gsa) THAT YtkaejoejaohpcaaProg.lean LOADS. Nothing in Lean hashes anything: it is a label: what it is worth is what the hold of that sum in a sandbox is worth. -/
noncomputable def Try.pinned : Pinned := { name := "ytkaejoejaohpcaa", sum := "8c196c52700bf777befaee56ce513d1bde0d6ce1fec9606ecb6341e065ec11ba", checked := Try.checked }
namespace Rows
def none {H : Type} : Left H := { results := [], args := [] }

/-- 'lotdrawerkeep.NatField': WHATEVER THE INPUT: true; the input reads as it did. -/
def natFieldSpec : ChangeSpec := { name := "natField", fn := fun _ => fun
  | [d1, d2, d3] => { results := [.lit (.bool true)], args := [d1, d2, d3] }
  | _ => none }
def natFieldRow : OpenClaim := { program := "ytkaejoejaohpcaa", sum := "8c196c52700bf777befaee56ce513d1bde0d6ce1fec9606ecb6341e065ec11ba", func := "lotdrawer/lotdrawerkeep.NatField", spec := "natField", inPlace := ["math/bits.Add64"], named := ["math/bits.divideError", "math/bits.overflowError"], apart := false }
def NatFieldSaid : Prop := natFieldRow.holds Try.pinned (OpenSpec.ofChange natFieldSpec)

/-- ITS FALSE NEIGHBOUR: 'it returns false'. Refute it at one input. -/
def natFieldWrong : ChangeSpec := { name := "natField", fn := fun _ => fun
  | [d1, d2, d3] => { results := [.lit (.bool false)], args := [d1, d2, d3] }
  | _ => none }
def NatFieldWrongFalsely : Prop := natFieldRow.holds Try.pinned (OpenSpec.ofChange natFieldWrong)

/-- 'lotdrawerkeep.NatDiv': WHATEVER THE INPUT: true; the input reads as it did. -/
def natDivSpec : ChangeSpec := { name := "natDiv", fn := fun _ => fun
  | [d1, d2] => { results := [.lit (.bool true)], args := [d1, d2] }
  | _ => none }
def natDivRow : OpenClaim := { program := "ytkaejoejaohpcaa", sum := "8c196c52700bf777befaee56ce513d1bde0d6ce1fec9606ecb6341e065ec11ba", func := "lotdrawer/lotdrawerkeep.NatDiv", spec := "natDiv", inPlace := ["math/bits.Add64"], named := ["math/bits.divideError", "math/bits.overflowError"], apart := false }
def NatDivSaid : Prop := natDivRow.holds Try.pinned (OpenSpec.ofChange natDivSpec)

/-- ITS FALSE NEIGHBOUR: 'it returns false'. Refute it at one input. -/
def natDivWrong : ChangeSpec := { name := "natDiv", fn := fun _ => fun
  | [d1, d2] => { results := [.lit (.bool false)], args := [d1, d2] }
  | _ => none }
def NatDivWrongFalsely : Prop := natDivRow.holds Try.pinned (OpenSpec.ofChange natDivWrong)

/-- 'lotdrawerkeep.NatFalls': WHATEVER THE INPUT: true; the input reads as it did. -/
def natFallsSpec : ChangeSpec := { name := "natFalls", fn := fun _ => fun
  | [d1, d2, d3] => { results := [.lit (.bool true)], args := [d1, d2, d3] }
  | _ => none }
def natFallsRow : OpenClaim := { program := "ytkaejoejaohpcaa", sum := "8c196c52700bf777befaee56ce513d1bde0d6ce1fec9606ecb6341e065ec11ba", func := "lotdrawer/lotdrawerkeep.NatFalls", spec := "natFalls", inPlace := ["math/bits.Add64"], named := ["math/bits.divideError", "math/bits.overflowError"], apart := false }
def NatFallsSaid : Prop := natFallsRow.holds Try.pinned (OpenSpec.ofChange natFallsSpec)

/-- ITS FALSE NEIGHBOUR: 'it returns false'. Refute it at one input. -/
def natFallsWrong : ChangeSpec := { name := "natFalls", fn := fun _ => fun
  | [d1, d2, d3] => { results := [.lit (.bool false)], args := [d1, d2, d3] }
  | _ => none }
def NatFallsWrongFalsely : Prop := natFallsRow.holds Try.pinned (OpenSpec.ofChange natFallsWrong)

/-- 'lotdrawerkeep.NatBack': WHATEVER THE INPUT: true; the input reads as it did. -/
def natBackSpec : ChangeSpec := { name := "natBack", fn := fun _ => fun
  | [d1, d2, d3] => { results := [.lit (.bool true)], args := [d1, d2, d3] }
  | _ => none }
def natBackRow : OpenClaim := { program := "ytkaejoejaohpcaa", sum := "8c196c52700bf777befaee56ce513d1bde0d6ce1fec9606ecb6341e065ec11ba", func := "lotdrawer/lotdrawerkeep.NatBack", spec := "natBack", inPlace := ["math/bits.Add64", "math/bits.Sub64"], named := ["math/bits.divideError", "math/bits.overflowError"], apart := false }
def NatBackSaid : Prop := natBackRow.holds Try.pinned (OpenSpec.ofChange natBackSpec)

/-- ITS FALSE NEIGHBOUR: 'it returns false'. Refute it at one input. -/
def natBackWrong : ChangeSpec := { name := "natBack", fn := fun _ => fun
  | [d1, d2, d3] => { results := [.lit (.bool false)], args := [d1, d2, d3] }
  | _ => none }
def NatBackWrongFalsely : Prop := natBackRow.holds Try.pinned (OpenSpec.ofChange natBackWrong)

/- THE SECOND FORM. 'bulk': how many values and letters a reading holds, each counted each time it is reached (what is shared counts as often as it is met; a slice's spare places count too). A statement '..UptoSaid' is the law's where the arguments, and the package variables that the reading takes, are together of bulk at most 1048576: NARROWER than '..Said'. Prove '..Said' where nothing that the law and all that it calls make is longer than what came in: it says more and counts as full. Else prove '..UptoSaid'. A law counts once. -/
mutual
def uptoBulk {H : Type} : DataW H → Nat
  | .lit (.string bytes) => bytes.length + 1
  | .lit _ => 1
  | .nil => 1
  | .ptr d => uptoBulk d + 1
  | .slice elems spare => uptoBulkAll elems + uptoBulkAll spare + 1
  | .agg parts => uptoBulkAll parts + 1
  | .iface _ d => uptoBulk d + 1
  | .map entries => uptoBulkEntries entries + 1
  | .held _ => 1
def uptoBulkAll {H : Type} : List (DataW H) → Nat
  | [] => 0
  | d :: r => uptoBulk d + uptoBulkAll r
def uptoBulkEntries {H : Type} : List (Lit × DataW H) → Nat
  | [] => 0
  | x :: r => uptoBulkEntry x + uptoBulkEntries r
def uptoBulkEntry {H : Type} : Lit × DataW H → Nat
  | (.string bytes, d) => bytes.length + uptoBulk d + 1
  | (_, d) => uptoBulk d + 1
 end
def uptoSmall : (H : Type) → List (DataW H) → Bool := fun _ ds => decide (uptoBulkAll ds ≤ 1048576)
def OpenSpec.upto (s : _root_.Go.ChangeSpec) : _root_.Go.OpenSpec := { _root_.Go.OpenSpec.ofChange s with cond := some uptoSmall }

/-- 'lotdrawerkeep.NatField', WHERE WHAT IT READS IS OF BULK AT MOST 1048576: true; the input reads as it did. -/
def natFieldUptoRow : OpenClaim := { program := "ytkaejoejaohpcaa", sum := "8c196c52700bf777befaee56ce513d1bde0d6ce1fec9606ecb6341e065ec11ba", func := "lotdrawer/lotdrawerkeep.NatField", spec := "natField", inPlace := ["math/bits.Add64"], named := ["math/bits.divideError", "math/bits.overflowError"], apart := false, narrowed := true }
def NatFieldUptoSaid : Prop := natFieldUptoRow.holds Try.pinned (OpenSpec.upto natFieldSpec)

/-- 'lotdrawerkeep.NatDiv', WHERE WHAT IT READS IS OF BULK AT MOST 1048576: true; the input reads as it did. -/
def natDivUptoRow : OpenClaim := { program := "ytkaejoejaohpcaa", sum := "8c196c52700bf777befaee56ce513d1bde0d6ce1fec9606ecb6341e065ec11ba", func := "lotdrawer/lotdrawerkeep.NatDiv", spec := "natDiv", inPlace := ["math/bits.Add64"], named := ["math/bits.divideError", "math/bits.overflowError"], apart := false, narrowed := true }
def NatDivUptoSaid : Prop := natDivUptoRow.holds Try.pinned (OpenSpec.upto natDivSpec)

/-- 'lotdrawerkeep.NatFalls', WHERE WHAT IT READS IS OF BULK AT MOST 1048576: true; the input reads as it did. -/
def natFallsUptoRow : OpenClaim := { program := "ytkaejoejaohpcaa", sum := "8c196c52700bf777befaee56ce513d1bde0d6ce1fec9606ecb6341e065ec11ba", func := "lotdrawer/lotdrawerkeep.NatFalls", spec := "natFalls", inPlace := ["math/bits.Add64"], named := ["math/bits.divideError", "math/bits.overflowError"], apart := false, narrowed := true }
def NatFallsUptoSaid : Prop := natFallsUptoRow.holds Try.pinned (OpenSpec.upto natFallsSpec)

/-- 'lotdrawerkeep.NatBack', WHERE WHAT IT READS IS OF BULK AT MOST 1048576: true; the input reads as it did. -/
def natBackUptoRow : OpenClaim := { program := "ytkaejoejaohpcaa", sum := "8c196c52700bf777befaee56ce513d1bde0d6ce1fec9606ecb6341e065ec11ba", func := "lotdrawer/lotdrawerkeep.NatBack", spec := "natBack", inPlace := ["math/bits.Add64", "math/bits.Sub64"], named := ["math/bits.divideError", "math/bits.overflowError"], apart := false, narrowed := true }
def NatBackUptoSaid : Prop := natBackUptoRow.holds Try.pinned (OpenSpec.upto natBackSpec)

end Rows
end Go.Proofs.Ytkaejoejaohpcaa
