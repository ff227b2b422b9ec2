/-
  No cell of these rows narrows 'for every input' (looked for: loops, veiled, ifaces, maps, wideKeys, modest, calm, conditions, laid).
  DERIVED. THE GIVEN ROWS OF THIS SEAT. 5 by the template 'for every input the law returns true; each argument reads behind the call as it read before'; 0 by the template 'total and deterministic' (their statements: YtdlnjalkbgkhdaaTotals.lean).
  GIVEN WITH THE SEED: the statements are not yours to turn. If you find one false, say at which input.
  Laid BY PROGRAM, IN A SANDBOX (cutbox-rows.mjs): the forced cells as the released guide's own fill.sh prints them over the translation e47e064bac1e15fa… (all of the seat's roots in one cut). By AI agents, Wed Nov 11 2026. No macro, syntax, notation, axiom, sorry.
-/
import Derived.Test.YtdlnjalkbgkhdaaChecked
import GoSem.Claim
import GoSem.ClaimJoined
import GoSem.ClaimMapViews
import Derived.JoinedTies
import Derived.KernelRfl
namespace Go.Proofs.Ytdlnjalkbgkhdaa
/- THE CELL 'sum', in the pinned program and in every row, IS THE sha256 OF THE DUMP (.gsa) THAT YtdlnjalkbgkhdaaProg.lean LOADS. Nothing in Lean hashes anything: it is a label: what it is worth is what the hold of that sum in a sandbox is worth. -/
noncomputable def Try.pinned : Pinned := { name := "ytdlnjalkbgkhdaa", sum := "e47e064bac1e15fafd3a3b7cb3bbaeaf9abc65b72067d79ea1283bd03fe19a95", checked := Try.checked }
namespace Rows
def none {H : Type} : Left H := { results := [], args := [] }

/-- 'lotdrawerkeep.StatsCauchy': WHATEVER THE INPUT: true; the input reads as it did. -/
def statsCauchySpec : ChangeSpec := { name := "statsCauchy", fn := fun _ => fun
  | [d1, d2] => { results := [.lit (.bool true)], args := [d1, d2] }
  | _ => none }
def statsCauchyRow : OpenClaim := { program := "ytdlnjalkbgkhdaa", sum := "e47e064bac1e15fafd3a3b7cb3bbaeaf9abc65b72067d79ea1283bd03fe19a95", func := "lotdrawer/lotdrawerkeep.StatsCauchy", spec := "statsCauchy", unfollowed := true, recurses := true, apart := false }
def StatsCauchySaid : Prop := statsCauchyRow.holds Try.pinned (OpenSpec.ofChange statsCauchySpec)

/-- ITS FALSE NEIGHBOUR: 'it returns false'. Refute it at one input. -/
def statsCauchyWrong : ChangeSpec := { name := "statsCauchy", fn := fun _ => fun
  | [d1, d2] => { results := [.lit (.bool false)], args := [d1, d2] }
  | _ => none }
def StatsCauchyWrongFalsely : Prop := statsCauchyRow.holds Try.pinned (OpenSpec.ofChange statsCauchyWrong)

/-- 'lotdrawerkeep.StatsMedian': WHATEVER THE INPUT: true; the input reads as it did. -/
def statsMedianSpec : ChangeSpec := { name := "statsMedian", fn := fun _ => fun
  | [d1, d2] => { results := [.lit (.bool true)], args := [d1, d2] }
  | _ => none }
def statsMedianRow : OpenClaim := { program := "ytdlnjalkbgkhdaa", sum := "e47e064bac1e15fafd3a3b7cb3bbaeaf9abc65b72067d79ea1283bd03fe19a95", func := "lotdrawer/lotdrawerkeep.StatsMedian", spec := "statsMedian", unfollowed := true, recurses := true, apart := false }
def StatsMedianSaid : Prop := statsMedianRow.holds Try.pinned (OpenSpec.ofChange statsMedianSpec)

/-- ITS FALSE NEIGHBOUR: 'it returns false'. Refute it at one input. -/
def statsMedianWrong : ChangeSpec := { name := "statsMedian", fn := fun _ => fun
  | [d1, d2] => { results := [.lit (.bool false)], args := [d1, d2] }
  | _ => none }
def StatsMedianWrongFalsely : Prop := statsMedianRow.holds Try.pinned (OpenSpec.ofChange statsMedianWrong)

/-- 'lotdrawerkeep.StatsShift': WHATEVER THE INPUT: true; the input reads as it did. -/
def statsShiftSpec : ChangeSpec := { name := "statsShift", fn := fun _ => fun
  | [d1, d2, d3] => { results := [.lit (.bool true)], args := [d1, d2, d3] }
  | _ => none }
def statsShiftRow : OpenClaim := { program := "ytdlnjalkbgkhdaa", sum := "e47e064bac1e15fafd3a3b7cb3bbaeaf9abc65b72067d79ea1283bd03fe19a95", func := "lotdrawer/lotdrawerkeep.StatsShift", spec := "statsShift", unfollowed := true, recurses := true, apart := false }
def StatsShiftSaid : Prop := statsShiftRow.holds Try.pinned (OpenSpec.ofChange statsShiftSpec)

/-- ITS FALSE NEIGHBOUR: 'it returns false'. Refute it at one input. -/
def statsShiftWrong : ChangeSpec := { name := "statsShift", fn := fun _ => fun
  | [d1, d2, d3] => { results := [.lit (.bool false)], args := [d1, d2, d3] }
  | _ => none }
def StatsShiftWrongFalsely : Prop := statsShiftRow.holds Try.pinned (OpenSpec.ofChange statsShiftWrong)

/-- 'lotdrawerkeep.StatsPairs': WHATEVER THE INPUT: true; the input reads as it did. -/
def statsPairsSpec : ChangeSpec := { name := "statsPairs", fn := fun _ => fun
  | [d] => { results := [.lit (.bool true)], args := [d] }
  | _ => none }
def statsPairsRow : OpenClaim := { program := "ytdlnjalkbgkhdaa", sum := "e47e064bac1e15fafd3a3b7cb3bbaeaf9abc65b72067d79ea1283bd03fe19a95", func := "lotdrawer/lotdrawerkeep.StatsPairs", spec := "statsPairs", unfollowed := true, recurses := true, apart := false }
def StatsPairsSaid : Prop := statsPairsRow.holds Try.pinned (OpenSpec.ofChange statsPairsSpec)

/-- ITS FALSE NEIGHBOUR: 'it returns false'. Refute it at one input. -/
def statsPairsWrong : ChangeSpec := { name := "statsPairs", fn := fun _ => fun
  | [d] => { results := [.lit (.bool false)], args := [d] }
  | _ => none }
def StatsPairsWrongFalsely : Prop := statsPairsRow.holds Try.pinned (OpenSpec.ofChange statsPairsWrong)

/-- 'lotdrawerkeep.StatsParts': WHATEVER THE INPUT: true; the input reads as it did. -/
def statsPartsSpec : ChangeSpec := { name := "statsParts", fn := fun _ => fun
  | [d1, d2] => { results := [.lit (.bool true)], args := [d1, d2] }
  | _ => none }
def statsPartsRow : OpenClaim := { program := "ytdlnjalkbgkhdaa", sum := "e47e064bac1e15fafd3a3b7cb3bbaeaf9abc65b72067d79ea1283bd03fe19a95", func := "lotdrawer/lotdrawerkeep.StatsParts", spec := "statsParts", unfollowed := true, recurses := true, apart := false }
def StatsPartsSaid : Prop := statsPartsRow.holds Try.pinned (OpenSpec.ofChange statsPartsSpec)

/-- ITS FALSE NEIGHBOUR: 'it returns false'. Refute it at one input. -/
def statsPartsWrong : ChangeSpec := { name := "statsParts", fn := fun _ => fun
  | [d1, d2] => { results := [.lit (.bool false)], args := [d1, d2] }
  | _ => none }
def StatsPartsWrongFalsely : Prop := statsPartsRow.holds Try.pinned (OpenSpec.ofChange statsPartsWrong)

/- THE SECOND FORM. 'bulk': how many values and letters a reading holds, each counted each time it is reached (what is shared counts as often as it is met; a slice's spare places count too). A statement '..UptoSaid' is the law's where the arguments, and the package variables that the reading takes, are together of bulk at most 1048576: NARROWER than '..Said'. Prove '..Said' where nothing that the law and all that it calls make is longer than what came in: it says more and counts as full. Else prove '..UptoSaid'. A law counts once. -/
mutual
def uptoBulk {H : Type} : DataW H → Nat
  | .lit (.string bytes) => bytes.length + 1
  | .lit _ => 1
  | .nil => 1
  | .ptr d => uptoBulk d + 1
  | .slice elems spare => uptoBulkAll elems + uptoBulkAll spare + 1
  | .agg parts => uptoBulkAll parts + 1
  | .iface _ d => uptoBulk d + 1
  | .map entries => uptoBulkEntries entries + 1
  | .held _ => 1
def uptoBulkAll {H : Type} : List (DataW H) → Nat
  | [] => 0
  | d :: r => uptoBulk d + uptoBulkAll r
def uptoBulkEntries {H : Type} : List (Lit × DataW H) → Nat
  | [] => 0
  | x :: r => uptoBulkEntry x + uptoBulkEntries r
def uptoBulkEntry {H : Type} : Lit × DataW H → Nat
  | (.string bytes, d) => bytes.length + uptoBulk d + 1
  | (_, d) => uptoBulk d + 1
 end
def uptoSmall : (H : Type) → List (DataW H) → Bool := fun _ ds => decide (uptoBulkAll ds ≤ 1048576)
def OpenSpec.upto (s : _root_.Go.ChangeSpec) : _root_.Go.OpenSpec := { _root_.Go.OpenSpec.ofChange s with cond := some uptoSmall }

/-- 'lotdrawerkeep.StatsCauchy', WHERE WHAT IT READS IS OF BULK AT MOST 1048576: true; the input reads as it did. -/
def statsCauchyUptoRow : OpenClaim := { program := "ytdlnjalkbgkhdaa", sum := "e47e064bac1e15fafd3a3b7cb3bbaeaf9abc65b72067d79ea1283bd03fe19a95", func := "lotdrawer/lotdrawerkeep.StatsCauchy", spec := "statsCauchy", unfollowed := true, recurses := true, apart := false, narrowed := true }
def StatsCauchyUptoSaid : Prop := statsCauchyUptoRow.holds Try.pinned (OpenSpec.upto statsCauchySpec)

/-- 'lotdrawerkeep.StatsMedian', WHERE WHAT IT READS IS OF BULK AT MOST 1048576: true; the input reads as it did. -/
def statsMedianUptoRow : OpenClaim := { program := "ytdlnjalkbgkhdaa", sum := "e47e064bac1e15fafd3a3b7cb3bbaeaf9abc65b72067d79ea1283bd03fe19a95", func := "lotdrawer/lotdrawerkeep.StatsMedian", spec := "statsMedian", unfollowed := true, recurses := true, apart := false, narrowed := true }
def StatsMedianUptoSaid : Prop := statsMedianUptoRow.holds Try.pinned (OpenSpec.upto statsMedianSpec)

/-- 'lotdrawerkeep.StatsShift', WHERE WHAT IT READS IS OF BULK AT MOST 1048576: true; the input reads as it did. -/
def statsShiftUptoRow : OpenClaim := { program := "ytdlnjalkbgkhdaa", sum := "e47e064bac1e15fafd3a3b7cb3bbaeaf9abc65b72067d79ea1283bd03fe19a95", func := "lotdrawer/lotdrawerkeep.StatsShift", spec := "statsShift", unfollowed := true, recurses := true, apart := false, narrowed := true }
def StatsShiftUptoSaid : Prop := statsShiftUptoRow.holds Try.pinned (OpenSpec.upto statsShiftSpec)

/-- 'lotdrawerkeep.StatsPairs', WHERE WHAT IT READS IS OF BULK AT MOST 1048576: true; the input reads as it did. -/
def statsPairsUptoRow : OpenClaim := { program := "ytdlnjalkbgkhdaa", sum := "e47e064bac1e15fafd3a3b7cb3bbaeaf9abc65b72067d79ea1283bd03fe19a95", func := "lotdrawer/lotdrawerkeep.StatsPairs", spec := "statsPairs", unfollowed := true, recurses := true, apart := false, narrowed := true }
def StatsPairsUptoSaid : Prop := statsPairsUptoRow.holds Try.pinned (OpenSpec.upto statsPairsSpec)

/-- 'lotdrawerkeep.StatsParts', WHERE WHAT IT READS IS OF BULK AT MOST 1048576: true; the input reads as it did. -/
def statsPartsUptoRow : OpenClaim := { program := "ytdlnjalkbgkhdaa", sum := "e47e064bac1e15fafd3a3b7cb3bbaeaf9abc65b72067d79ea1283bd03fe19a95", func := "lotdrawer/lotdrawerkeep.StatsParts", spec := "statsParts", unfollowed := true, recurses := true, apart := false, narrowed := true }
def StatsPartsUptoSaid : Prop := statsPartsUptoRow.holds Try.pinned (OpenSpec.upto statsPartsSpec)

end Rows
end Go.Proofs.Ytdlnjalkbgkhdaa
