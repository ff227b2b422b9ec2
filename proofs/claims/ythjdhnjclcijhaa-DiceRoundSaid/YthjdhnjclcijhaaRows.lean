/-
  No cell of these rows narrows 'for every input' (looked for: loops, veiled, ifaces, maps, wideKeys, modest, calm, conditions, laid).
  DERIVED. THE GIVEN ROWS OF THIS SEAT. 5 by the template 'for every input the law returns true; each argument reads behind the call as it read before'; 0 by the template 'total and deterministic' (their statements: YthjdhnjclcijhaaTotals.lean).
  GIVEN WITH THE SEED: the statements are not yours to turn. If you find one false, say at which input.
  Laid BY PROGRAM, IN A SANDBOX (cutbox-rows.mjs): the forced cells as the released guide's own fill.sh prints them over the translation e7a17b80168b6a57… (all of the seat's roots in one cut). By AI agents, Wed Nov 11 2026. No macro, syntax, notation, axiom, sorry.
-/
import Derived.Test.YthjdhnjclcijhaaChecked
import GoSem.Claim
import GoSem.ClaimJoined
import GoSem.ClaimMapViews
import Derived.JoinedTies
import Derived.KernelRfl
namespace Go.Proofs.Ythjdhnjclcijhaa
/- THE CELL 'sum', in the pinned program and in every row, IS THE sha256 OF THE DUMP (.gsa) THAT YthjdhnjclcijhaaProg.lean LOADS. Nothing in Lean hashes anything: it is a label: what it is worth is what the hold of that sum in a sandbox is worth. -/
noncomputable def Try.pinned : Pinned := { name := "ythjdhnjclcijhaa", sum := "e7a17b80168b6a57fe003b7af973b50f061bb732d3ada51650d30fd6f6196293", checked := Try.checked }
namespace Rows
def none {H : Type} : Left H := { results := [], args := [] }

/-- 'lotdrawerkeep.DiceGroup': WHATEVER THE INPUT: true; the input reads as it did. -/
def diceGroupSpec : ChangeSpec := { name := "diceGroup", fn := fun _ => fun
  | [d1, d2, d3] => { results := [.lit (.bool true)], args := [d1, d2, d3] }
  | _ => none }
def diceGroupRow : OpenClaim := { program := "ythjdhnjclcijhaa", sum := "e7a17b80168b6a57fe003b7af973b50f061bb732d3ada51650d30fd6f6196293", func := "lotdrawer/lotdrawerkeep.DiceGroup", spec := "diceGroup", unfollowed := true, recurses := true, apart := false }
def DiceGroupSaid : Prop := diceGroupRow.holds Try.pinned (OpenSpec.ofChange diceGroupSpec)

/-- ITS FALSE NEIGHBOUR: 'it returns false'. Refute it at one input. -/
def diceGroupWrong : ChangeSpec := { name := "diceGroup", fn := fun _ => fun
  | [d1, d2, d3] => { results := [.lit (.bool false)], args := [d1, d2, d3] }
  | _ => none }
def DiceGroupWrongFalsely : Prop := diceGroupRow.holds Try.pinned (OpenSpec.ofChange diceGroupWrong)

/-- 'lotdrawerkeep.DiceEven': WHATEVER THE INPUT: true; the input reads as it did. -/
def diceEvenSpec : ChangeSpec := { name := "diceEven", fn := fun _ => fun
  | [d1, d2] => { results := [.lit (.bool true)], args := [d1, d2] }
  | _ => none }
def diceEvenRow : OpenClaim := { program := "ythjdhnjclcijhaa", sum := "e7a17b80168b6a57fe003b7af973b50f061bb732d3ada51650d30fd6f6196293", func := "lotdrawer/lotdrawerkeep.DiceEven", spec := "diceEven", apart := false }
def DiceEvenSaid : Prop := diceEvenRow.holds Try.pinned (OpenSpec.ofChange diceEvenSpec)

/-- ITS FALSE NEIGHBOUR: 'it returns false'. Refute it at one input. -/
def diceEvenWrong : ChangeSpec := { name := "diceEven", fn := fun _ => fun
  | [d1, d2] => { results := [.lit (.bool false)], args := [d1, d2] }
  | _ => none }
def DiceEvenWrongFalsely : Prop := diceEvenRow.holds Try.pinned (OpenSpec.ofChange diceEvenWrong)

/-- 'lotdrawerkeep.DiceRound': WHATEVER THE INPUT: true; the input reads as it did. -/
def diceRoundSpec : ChangeSpec := { name := "diceRound", fn := fun _ => fun
  | [d] => { results := [.lit (.bool true)], args := [d] }
  | _ => none }
def diceRoundRow : OpenClaim := { program := "ythjdhnjclcijhaa", sum := "e7a17b80168b6a57fe003b7af973b50f061bb732d3ada51650d30fd6f6196293", func := "lotdrawer/lotdrawerkeep.DiceRound", spec := "diceRound", unfollowed := true, recurses := true, apart := false }
def DiceRoundSaid : Prop := diceRoundRow.holds Try.pinned (OpenSpec.ofChange diceRoundSpec)

/-- ITS FALSE NEIGHBOUR: 'it returns false'. Refute it at one input. -/
def diceRoundWrong : ChangeSpec := { name := "diceRound", fn := fun _ => fun
  | [d] => { results := [.lit (.bool false)], args := [d] }
  | _ => none }
def DiceRoundWrongFalsely : Prop := diceRoundRow.holds Try.pinned (OpenSpec.ofChange diceRoundWrong)

/-- 'lotdrawerkeep.DiceMean': WHATEVER THE INPUT: true; the input reads as it did. -/
def diceMeanSpec : ChangeSpec := { name := "diceMean", fn := fun _ => fun
  | [d1, d2] => { results := [.lit (.bool true)], args := [d1, d2] }
  | _ => none }
def diceMeanRow : OpenClaim := { program := "ythjdhnjclcijhaa", sum := "e7a17b80168b6a57fe003b7af973b50f061bb732d3ada51650d30fd6f6196293", func := "lotdrawer/lotdrawerkeep.DiceMean", spec := "diceMean", apart := false }
def DiceMeanSaid : Prop := diceMeanRow.holds Try.pinned (OpenSpec.ofChange diceMeanSpec)

/-- ITS FALSE NEIGHBOUR: 'it returns false'. Refute it at one input. -/
def diceMeanWrong : ChangeSpec := { name := "diceMean", fn := fun _ => fun
  | [d1, d2] => { results := [.lit (.bool false)], args := [d1, d2] }
  | _ => none }
def DiceMeanWrongFalsely : Prop := diceMeanRow.holds Try.pinned (OpenSpec.ofChange diceMeanWrong)

/-- 'lotdrawerkeep.DiceBeats': WHATEVER THE INPUT: true; the input reads as it did. -/
def diceBeatsSpec : ChangeSpec := { name := "diceBeats", fn := fun _ => fun
  | [d1, d2, d3] => { results := [.lit (.bool true)], args := [d1, d2, d3] }
  | _ => none }
def diceBeatsRow : OpenClaim := { program := "ythjdhnjclcijhaa", sum := "e7a17b80168b6a57fe003b7af973b50f061bb732d3ada51650d30fd6f6196293", func := "lotdrawer/lotdrawerkeep.DiceBeats", spec := "diceBeats", apart := false }
def DiceBeatsSaid : Prop := diceBeatsRow.holds Try.pinned (OpenSpec.ofChange diceBeatsSpec)

/-- ITS FALSE NEIGHBOUR: 'it returns false'. Refute it at one input. -/
def diceBeatsWrong : ChangeSpec := { name := "diceBeats", fn := fun _ => fun
  | [d1, d2, d3] => { results := [.lit (.bool false)], args := [d1, d2, d3] }
  | _ => none }
def DiceBeatsWrongFalsely : Prop := diceBeatsRow.holds Try.pinned (OpenSpec.ofChange diceBeatsWrong)

/- THE SECOND FORM. 'bulk': how many values and letters a reading holds, each counted each time it is reached (what is shared counts as often as it is met; a slice's spare places count too). A statement '..UptoSaid' is the law's where the arguments, and the package variables that the reading takes, are together of bulk at most 1048576: NARROWER than '..Said'. Prove '..Said' where nothing that the law and all that it calls make is longer than what came in: it says more and counts as full. Else prove '..UptoSaid'. A law counts once. -/
mutual
def uptoBulk {H : Type} : DataW H → Nat
  | .lit (.string bytes) => bytes.length + 1
  | .lit _ => 1
  | .nil => 1
  | .ptr d => uptoBulk d + 1
  | .slice elems spare => uptoBulkAll elems + uptoBulkAll spare + 1
  | .agg parts => uptoBulkAll parts + 1
  | .iface _ d => uptoBulk d + 1
  | .map entries => uptoBulkEntries entries + 1
  | .held _ => 1
def uptoBulkAll {H : Type} : List (DataW H) → Nat
  | [] => 0
  | d :: r => uptoBulk d + uptoBulkAll r
def uptoBulkEntries {H : Type} : List (Lit × DataW H) → Nat
  | [] => 0
  | x :: r => uptoBulkEntry x + uptoBulkEntries r
def uptoBulkEntry {H : Type} : Lit × DataW H → Nat
  | (.string bytes, d) => bytes.length + uptoBulk d + 1
  | (_, d) => uptoBulk d + 1
 end
def uptoSmall : (H : Type) → List (DataW H) → Bool := fun _ ds => decide (uptoBulkAll ds ≤ 1048576)
def OpenSpec.upto (s : _root_.Go.ChangeSpec) : _root_.Go.OpenSpec := { _root_.Go.OpenSpec.ofChange s with cond := some uptoSmall }

/-- 'lotdrawerkeep.DiceGroup', WHERE WHAT IT READS IS OF BULK AT MOST 1048576: true; the input reads as it did. -/
def diceGroupUptoRow : OpenClaim := { program := "ythjdhnjclcijhaa", sum := "e7a17b80168b6a57fe003b7af973b50f061bb732d3ada51650d30fd6f6196293", func := "lotdrawer/lotdrawerkeep.DiceGroup", spec := "diceGroup", unfollowed := true, recurses := true, apart := false, narrowed := true }
def DiceGroupUptoSaid : Prop := diceGroupUptoRow.holds Try.pinned (OpenSpec.upto diceGroupSpec)

/-- 'lotdrawerkeep.DiceEven', WHERE WHAT IT READS IS OF BULK AT MOST 1048576: true; the input reads as it did. -/
def diceEvenUptoRow : OpenClaim := { program := "ythjdhnjclcijhaa", sum := "e7a17b80168b6a57fe003b7af973b50f061bb732d3ada51650d30fd6f6196293", func := "lotdrawer/lotdrawerkeep.DiceEven", spec := "diceEven", apart := false, narrowed := true }
def DiceEvenUptoSaid : Prop := diceEvenUptoRow.holds Try.pinned (OpenSpec.upto diceEvenSpec)

/-- 'lotdrawerkeep.DiceRound', WHERE WHAT IT READS IS OF BULK AT MOST 1048576: true; the input reads as it did. -/
def diceRoundUptoRow : OpenClaim := { program := "ythjdhnjclcijhaa", sum := "e7a17b80168b6a57fe003b7af973b50f061bb732d3ada51650d30fd6f6196293", func := "lotdrawer/lotdrawerkeep.DiceRound", spec := "diceRound", unfollowed := true, recurses := true, apart := false, narrowed := true }
def DiceRoundUptoSaid : Prop := diceRoundUptoRow.holds Try.pinned (OpenSpec.upto diceRoundSpec)

/-- 'lotdrawerkeep.DiceMean', WHERE WHAT IT READS IS OF BULK AT MOST 1048576: true; the input reads as it did. -/
def diceMeanUptoRow : OpenClaim := { program := "ythjdhnjclcijhaa", sum := "e7a17b80168b6a57fe003b7af973b50f061bb732d3ada51650d30fd6f6196293", func := "lotdrawer/lotdrawerkeep.DiceMean", spec := "diceMean", apart := false, narrowed := true }
def DiceMeanUptoSaid : Prop := diceMeanUptoRow.holds Try.pinned (OpenSpec.upto diceMeanSpec)

/-- 'lotdrawerkeep.DiceBeats', WHERE WHAT IT READS IS OF BULK AT MOST 1048576: true; the input reads as it did. -/
def diceBeatsUptoRow : OpenClaim := { program := "ythjdhnjclcijhaa", sum := "e7a17b80168b6a57fe003b7af973b50f061bb732d3ada51650d30fd6f6196293", func := "lotdrawer/lotdrawerkeep.DiceBeats", spec := "diceBeats", apart := false, narrowed := true }
def DiceBeatsUptoSaid : Prop := diceBeatsUptoRow.holds Try.pinned (OpenSpec.upto diceBeatsSpec)

end Rows
end Go.Proofs.Ythjdhnjclcijhaa
