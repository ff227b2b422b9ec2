/-
  No cell of these rows narrows 'for every input' (looked for: loops, veiled, ifaces, maps, wideKeys, modest, calm, conditions, laid).
  DERIVED. THE GIVEN ROWS OF THIS SEAT. 4 by the template 'for every input the law returns true; each argument reads behind the call as it read before'; 0 by the template 'total and deterministic' (their statements: YthnalgkojoeniaaTotals.lean).
  GIVEN WITH THE SEED: the statements are not yours to turn. If you find one false, say at which input.
  Laid BY PROGRAM, IN A SANDBOX (cutbox-rows.mjs): the forced cells as the released guide's own fill.sh prints them over the translation 7578d46cac96558b… (all of the seat's roots in one cut). By AI agents, Wed Nov 11 2026. No macro, syntax, notation, axiom, sorry.
-/
import Derived.Test.YthnalgkojoeniaaChecked
import GoSem.Claim
import GoSem.ClaimJoined
import GoSem.ClaimMapViews
import Derived.JoinedTies
import Derived.KernelRfl
namespace Go.Proofs.Ythnalgkojoeniaa
/- THE CELL 'sum', in the pinned program and in every row, IS THE sha256 OF THE DUMP (.gsa) THAT YthnalgkojoeniaaProg.lean LOADS. Nothing in Lean hashes anything: it is a label: what it is worth is what the hold of that sum in a sandbox is worth. -/
noncomputable def Try.pinned : Pinned := { name := "ythnalgkojoeniaa", sum := "7578d46cac96558b498c55dc12e31610e59f1d5a50ce0aa476fabc7c5f80eb4b", checked := Try.checked }
namespace Rows
def none {H : Type} : Left H := { results := [], args := [] }

/-- 'lotdrawerkeep.CyclesOdd': WHATEVER THE INPUT: true; the input reads as it did. -/
def cyclesOddSpec : ChangeSpec := { name := "cyclesOdd", fn := fun _ => fun
  | [d1, d2, d3, d4] => { results := [.lit (.bool true)], args := [d1, d2, d3, d4] }
  | _ => none }
def cyclesOddRow : OpenClaim := { program := "ythnalgkojoeniaa", sum := "7578d46cac96558b498c55dc12e31610e59f1d5a50ce0aa476fabc7c5f80eb4b", func := "lotdrawer/lotdrawerkeep.CyclesOdd", spec := "cyclesOdd", unfollowed := true, recurses := true, apart := false }
def CyclesOddSaid : Prop := cyclesOddRow.holds Try.pinned (OpenSpec.ofChange cyclesOddSpec)

/-- ITS FALSE NEIGHBOUR: 'it returns false'. Refute it at one input. -/
def cyclesOddWrong : ChangeSpec := { name := "cyclesOdd", fn := fun _ => fun
  | [d1, d2, d3, d4] => { results := [.lit (.bool false)], args := [d1, d2, d3, d4] }
  | _ => none }
def CyclesOddWrongFalsely : Prop := cyclesOddRow.holds Try.pinned (OpenSpec.ofChange cyclesOddWrong)

/-- 'lotdrawerkeep.CyclesTimes': WHATEVER THE INPUT: true; the input reads as it did. -/
def cyclesTimesSpec : ChangeSpec := { name := "cyclesTimes", fn := fun _ => fun
  | [d] => { results := [.lit (.bool true)], args := [d] }
  | _ => none }
def cyclesTimesRow : OpenClaim := { program := "ythnalgkojoeniaa", sum := "7578d46cac96558b498c55dc12e31610e59f1d5a50ce0aa476fabc7c5f80eb4b", func := "lotdrawer/lotdrawerkeep.CyclesTimes", spec := "cyclesTimes", unfollowed := true, recurses := true, apart := false }
def CyclesTimesSaid : Prop := cyclesTimesRow.holds Try.pinned (OpenSpec.ofChange cyclesTimesSpec)

/-- ITS FALSE NEIGHBOUR: 'it returns false'. Refute it at one input. -/
def cyclesTimesWrong : ChangeSpec := { name := "cyclesTimes", fn := fun _ => fun
  | [d] => { results := [.lit (.bool false)], args := [d] }
  | _ => none }
def CyclesTimesWrongFalsely : Prop := cyclesTimesRow.holds Try.pinned (OpenSpec.ofChange cyclesTimesWrong)

/-- 'lotdrawerkeep.CyclesFoata': WHATEVER THE INPUT: true; the input reads as it did. -/
def cyclesFoataSpec : ChangeSpec := { name := "cyclesFoata", fn := fun _ => fun
  | [d] => { results := [.lit (.bool true)], args := [d] }
  | _ => none }
def cyclesFoataRow : OpenClaim := { program := "ythnalgkojoeniaa", sum := "7578d46cac96558b498c55dc12e31610e59f1d5a50ce0aa476fabc7c5f80eb4b", func := "lotdrawer/lotdrawerkeep.CyclesFoata", spec := "cyclesFoata", unfollowed := true, recurses := true, apart := false }
def CyclesFoataSaid : Prop := cyclesFoataRow.holds Try.pinned (OpenSpec.ofChange cyclesFoataSpec)

/-- ITS FALSE NEIGHBOUR: 'it returns false'. Refute it at one input. -/
def cyclesFoataWrong : ChangeSpec := { name := "cyclesFoata", fn := fun _ => fun
  | [d] => { results := [.lit (.bool false)], args := [d] }
  | _ => none }
def CyclesFoataWrongFalsely : Prop := cyclesFoataRow.holds Try.pinned (OpenSpec.ofChange cyclesFoataWrong)

/-- 'lotdrawerkeep.CyclesBack': WHATEVER THE INPUT: true; the input reads as it did. -/
def cyclesBackSpec : ChangeSpec := { name := "cyclesBack", fn := fun _ => fun
  | [d] => { results := [.lit (.bool true)], args := [d] }
  | _ => none }
def cyclesBackRow : OpenClaim := { program := "ythnalgkojoeniaa", sum := "7578d46cac96558b498c55dc12e31610e59f1d5a50ce0aa476fabc7c5f80eb4b", func := "lotdrawer/lotdrawerkeep.CyclesBack", spec := "cyclesBack", unfollowed := true, recurses := true, apart := false }
def CyclesBackSaid : Prop := cyclesBackRow.holds Try.pinned (OpenSpec.ofChange cyclesBackSpec)

/-- ITS FALSE NEIGHBOUR: 'it returns false'. Refute it at one input. -/
def cyclesBackWrong : ChangeSpec := { name := "cyclesBack", fn := fun _ => fun
  | [d] => { results := [.lit (.bool false)], args := [d] }
  | _ => none }
def CyclesBackWrongFalsely : Prop := cyclesBackRow.holds Try.pinned (OpenSpec.ofChange cyclesBackWrong)

/- THE SECOND FORM. 'bulk': how many values and letters a reading holds, each counted each time it is reached (what is shared counts as often as it is met; a slice's spare places count too). A statement '..UptoSaid' is the law's where the arguments, and the package variables that the reading takes, are together of bulk at most 1048576: NARROWER than '..Said'. Prove '..Said' where nothing that the law and all that it calls make is longer than what came in: it says more and counts as full. Else prove '..UptoSaid'. A law counts once. -/
mutual
def uptoBulk {H : Type} : DataW H → Nat
  | .lit (.string bytes) => bytes.length + 1
  | .lit _ => 1
  | .nil => 1
  | .ptr d => uptoBulk d + 1
  | .slice elems spare => uptoBulkAll elems + uptoBulkAll spare + 1
  | .agg parts => uptoBulkAll parts + 1
  | .iface _ d => uptoBulk d + 1
  | .map entries => uptoBulkEntries entries + 1
  | .held _ => 1
def uptoBulkAll {H : Type} : List (DataW H) → Nat
  | [] => 0
  | d :: r => uptoBulk d + uptoBulkAll r
def uptoBulkEntries {H : Type} : List (Lit × DataW H) → Nat
  | [] => 0
  | x :: r => uptoBulkEntry x + uptoBulkEntries r
def uptoBulkEntry {H : Type} : Lit × DataW H → Nat
  | (.string bytes, d) => bytes.length + uptoBulk d + 1
  | (_, d) => uptoBulk d + 1
 end
def uptoSmall : (H : Type) → List (DataW H) → Bool := fun _ ds => decide (uptoBulkAll ds ≤ 1048576)
def OpenSpec.upto (s : _root_.Go.ChangeSpec) : _root_.Go.OpenSpec := { _root_.Go.OpenSpec.ofChange s with cond := some uptoSmall }

/-- 'lotdrawerkeep.CyclesOdd', WHERE WHAT IT READS IS OF BULK AT MOST 1048576: true; the input reads as it did. -/
def cyclesOddUptoRow : OpenClaim := { program := "ythnalgkojoeniaa", sum := "7578d46cac96558b498c55dc12e31610e59f1d5a50ce0aa476fabc7c5f80eb4b", func := "lotdrawer/lotdrawerkeep.CyclesOdd", spec := "cyclesOdd", unfollowed := true, recurses := true, apart := false, narrowed := true }
def CyclesOddUptoSaid : Prop := cyclesOddUptoRow.holds Try.pinned (OpenSpec.upto cyclesOddSpec)

/-- 'lotdrawerkeep.CyclesTimes', WHERE WHAT IT READS IS OF BULK AT MOST 1048576: true; the input reads as it did. -/
def cyclesTimesUptoRow : OpenClaim := { program := "ythnalgkojoeniaa", sum := "7578d46cac96558b498c55dc12e31610e59f1d5a50ce0aa476fabc7c5f80eb4b", func := "lotdrawer/lotdrawerkeep.CyclesTimes", spec := "cyclesTimes", unfollowed := true, recurses := true, apart := false, narrowed := true }
def CyclesTimesUptoSaid : Prop := cyclesTimesUptoRow.holds Try.pinned (OpenSpec.upto cyclesTimesSpec)

/-- 'lotdrawerkeep.CyclesFoata', WHERE WHAT IT READS IS OF BULK AT MOST 1048576: true; the input reads as it did. -/
def cyclesFoataUptoRow : OpenClaim := { program := "ythnalgkojoeniaa", sum := "7578d46cac96558b498c55dc12e31610e59f1d5a50ce0aa476fabc7c5f80eb4b", func := "lotdrawer/lotdrawerkeep.CyclesFoata", spec := "cyclesFoata", unfollowed := true, recurses := true, apart := false, narrowed := true }
def CyclesFoataUptoSaid : Prop := cyclesFoataUptoRow.holds Try.pinned (OpenSpec.upto cyclesFoataSpec)

/-- 'lotdrawerkeep.CyclesBack', WHERE WHAT IT READS IS OF BULK AT MOST 1048576: true; the input reads as it did. -/
def cyclesBackUptoRow : OpenClaim := { program := "ythnalgkojoeniaa", sum := "7578d46cac96558b498c55dc12e31610e59f1d5a50ce0aa476fabc7c5f80eb4b", func := "lotdrawer/lotdrawerkeep.CyclesBack", spec := "cyclesBack", unfollowed := true, recurses := true, apart := false, narrowed := true }
def CyclesBackUptoSaid : Prop := cyclesBackUptoRow.holds Try.pinned (OpenSpec.upto cyclesBackSpec)

end Rows
end Go.Proofs.Ythnalgkojoeniaa
