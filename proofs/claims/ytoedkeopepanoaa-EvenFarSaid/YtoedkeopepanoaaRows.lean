/-
  No cell of these rows narrows 'for every input' (looked for: loops, veiled, ifaces, maps, wideKeys, modest, calm, conditions, laid).
  DERIVED. THE GIVEN ROWS OF THIS SEAT. 4 by the template 'for every input the law returns true; each argument reads behind the call as it read before'; 0 by the template 'total and deterministic' (their statements: YtoedkeopepanoaaTotals.lean).
  GIVEN WITH THE SEED: the statements are not yours to turn. If you find one false, say at which input.
  Laid BY PROGRAM, IN A SANDBOX (cutbox-rows.mjs): the forced cells as the released guide's own fill.sh prints them over the translation 7a3c77e4b6ae86ea… (all of the seat's roots in one cut). By AI agents, Wed Nov 11 2026. No macro, syntax, notation, axiom, sorry.
-/
import Derived.Test.YtoedkeopepanoaaChecked
import GoSem.Claim
import GoSem.ClaimJoined
import GoSem.ClaimMapViews
import Derived.JoinedTies
import Derived.KernelRfl
namespace Go.Proofs.Ytoedkeopepanoaa
/- THE CELL 'sum', in the pinned program and in every row, IS THE sha256 OF THE DUMP (.gsa) THAT YtoedkeopepanoaaProg.lean LOADS. Nothing in Lean hashes anything: it is a label: what it is worth is what the hold of that sum in a sandbox is worth. -/
noncomputable def Try.pinned : Pinned := { name := "ytoedkeopepanoaa", sum := "7a3c77e4b6ae86ea8018ce1ea2e809cc98ed1a5c4804aee3fe3cd0f149198625", checked := Try.checked }
namespace Rows
def none {H : Type} : Left H := { results := [], args := [] }

/-- 'lotdrawerkeep.EvenBack': WHATEVER THE INPUT: true; the input reads as it did. -/
def evenBackSpec : ChangeSpec := { name := "evenBack", fn := fun _ => fun
  | [d1, d2, d3, d4] => { results := [.lit (.bool true)], args := [d1, d2, d3, d4] }
  | _ => none }
def evenBackRow : OpenClaim := { program := "ytoedkeopepanoaa", sum := "7a3c77e4b6ae86ea8018ce1ea2e809cc98ed1a5c4804aee3fe3cd0f149198625", func := "lotdrawer/lotdrawerkeep.EvenBack", spec := "evenBack", apart := false }
def EvenBackSaid : Prop := evenBackRow.holds Try.pinned (OpenSpec.ofChange evenBackSpec)

/-- ITS FALSE NEIGHBOUR: 'it returns false'. Refute it at one input. -/
def evenBackWrong : ChangeSpec := { name := "evenBack", fn := fun _ => fun
  | [d1, d2, d3, d4] => { results := [.lit (.bool false)], args := [d1, d2, d3, d4] }
  | _ => none }
def EvenBackWrongFalsely : Prop := evenBackRow.holds Try.pinned (OpenSpec.ofChange evenBackWrong)

/-- 'lotdrawerkeep.EvenFirst': WHATEVER THE INPUT: true; the input reads as it did. -/
def evenFirstSpec : ChangeSpec := { name := "evenFirst", fn := fun _ => fun
  | [d1, d2, d3, d4] => { results := [.lit (.bool true)], args := [d1, d2, d3, d4] }
  | _ => none }
def evenFirstRow : OpenClaim := { program := "ytoedkeopepanoaa", sum := "7a3c77e4b6ae86ea8018ce1ea2e809cc98ed1a5c4804aee3fe3cd0f149198625", func := "lotdrawer/lotdrawerkeep.EvenFirst", spec := "evenFirst", apart := false }
def EvenFirstSaid : Prop := evenFirstRow.holds Try.pinned (OpenSpec.ofChange evenFirstSpec)

/-- ITS FALSE NEIGHBOUR: 'it returns false'. Refute it at one input. -/
def evenFirstWrong : ChangeSpec := { name := "evenFirst", fn := fun _ => fun
  | [d1, d2, d3, d4] => { results := [.lit (.bool false)], args := [d1, d2, d3, d4] }
  | _ => none }
def EvenFirstWrongFalsely : Prop := evenFirstRow.holds Try.pinned (OpenSpec.ofChange evenFirstWrong)

/-- 'lotdrawerkeep.EvenPairs': WHATEVER THE INPUT: true; the input reads as it did. -/
def evenPairsSpec : ChangeSpec := { name := "evenPairs", fn := fun _ => fun
  | [d1, d2, d3, d4, d5] => { results := [.lit (.bool true)], args := [d1, d2, d3, d4, d5] }
  | _ => none }
def evenPairsRow : OpenClaim := { program := "ytoedkeopepanoaa", sum := "7a3c77e4b6ae86ea8018ce1ea2e809cc98ed1a5c4804aee3fe3cd0f149198625", func := "lotdrawer/lotdrawerkeep.EvenPairs", spec := "evenPairs", apart := false }
def EvenPairsSaid : Prop := evenPairsRow.holds Try.pinned (OpenSpec.ofChange evenPairsSpec)

/-- ITS FALSE NEIGHBOUR: 'it returns false'. Refute it at one input. -/
def evenPairsWrong : ChangeSpec := { name := "evenPairs", fn := fun _ => fun
  | [d1, d2, d3, d4, d5] => { results := [.lit (.bool false)], args := [d1, d2, d3, d4, d5] }
  | _ => none }
def EvenPairsWrongFalsely : Prop := evenPairsRow.holds Try.pinned (OpenSpec.ofChange evenPairsWrong)

/-- 'lotdrawerkeep.EvenFar': WHATEVER THE INPUT: true; the input reads as it did. -/
def evenFarSpec : ChangeSpec := { name := "evenFar", fn := fun _ => fun
  | [d1, d2, d3] => { results := [.lit (.bool true)], args := [d1, d2, d3] }
  | _ => none }
def evenFarRow : OpenClaim := { program := "ytoedkeopepanoaa", sum := "7a3c77e4b6ae86ea8018ce1ea2e809cc98ed1a5c4804aee3fe3cd0f149198625", func := "lotdrawer/lotdrawerkeep.EvenFar", spec := "evenFar", apart := false }
def EvenFarSaid : Prop := evenFarRow.holds Try.pinned (OpenSpec.ofChange evenFarSpec)

/-- ITS FALSE NEIGHBOUR: 'it returns false'. Refute it at one input. -/
def evenFarWrong : ChangeSpec := { name := "evenFar", fn := fun _ => fun
  | [d1, d2, d3] => { results := [.lit (.bool false)], args := [d1, d2, d3] }
  | _ => none }
def EvenFarWrongFalsely : Prop := evenFarRow.holds Try.pinned (OpenSpec.ofChange evenFarWrong)

/- THE SECOND FORM. 'bulk': how many values and letters a reading holds, each counted each time it is reached (what is shared counts as often as it is met; a slice's spare places count too). A statement '..UptoSaid' is the law's where the arguments, and the package variables that the reading takes, are together of bulk at most 1048576: NARROWER than '..Said'. Prove '..Said' where nothing that the law and all that it calls make is longer than what came in: it says more and counts as full. Else prove '..UptoSaid'. A law counts once. -/
mutual
def uptoBulk {H : Type} : DataW H → Nat
  | .lit (.string bytes) => bytes.length + 1
  | .lit _ => 1
  | .nil => 1
  | .ptr d => uptoBulk d + 1
  | .slice elems spare => uptoBulkAll elems + uptoBulkAll spare + 1
  | .agg parts => uptoBulkAll parts + 1
  | .iface _ d => uptoBulk d + 1
  | .map entries => uptoBulkEntries entries + 1
  | .held _ => 1
def uptoBulkAll {H : Type} : List (DataW H) → Nat
  | [] => 0
  | d :: r => uptoBulk d + uptoBulkAll r
def uptoBulkEntries {H : Type} : List (Lit × DataW H) → Nat
  | [] => 0
  | x :: r => uptoBulkEntry x + uptoBulkEntries r
def uptoBulkEntry {H : Type} : Lit × DataW H → Nat
  | (.string bytes, d) => bytes.length + uptoBulk d + 1
  | (_, d) => uptoBulk d + 1
 end
def uptoSmall : (H : Type) → List (DataW H) → Bool := fun _ ds => decide (uptoBulkAll ds ≤ 1048576)
def OpenSpec.upto (s : _root_.Go.ChangeSpec) : _root_.Go.OpenSpec := { _root_.Go.OpenSpec.ofChange s with cond := some uptoSmall }

/-- 'lotdrawerkeep.EvenBack', WHERE WHAT IT READS IS OF BULK AT MOST 1048576: true; the input reads as it did. -/
def evenBackUptoRow : OpenClaim := { program := "ytoedkeopepanoaa", sum := "7a3c77e4b6ae86ea8018ce1ea2e809cc98ed1a5c4804aee3fe3cd0f149198625", func := "lotdrawer/lotdrawerkeep.EvenBack", spec := "evenBack", apart := false, narrowed := true }
def EvenBackUptoSaid : Prop := evenBackUptoRow.holds Try.pinned (OpenSpec.upto evenBackSpec)

/-- 'lotdrawerkeep.EvenFirst', WHERE WHAT IT READS IS OF BULK AT MOST 1048576: true; the input reads as it did. -/
def evenFirstUptoRow : OpenClaim := { program := "ytoedkeopepanoaa", sum := "7a3c77e4b6ae86ea8018ce1ea2e809cc98ed1a5c4804aee3fe3cd0f149198625", func := "lotdrawer/lotdrawerkeep.EvenFirst", spec := "evenFirst", apart := false, narrowed := true }
def EvenFirstUptoSaid : Prop := evenFirstUptoRow.holds Try.pinned (OpenSpec.upto evenFirstSpec)

/-- 'lotdrawerkeep.EvenPairs', WHERE WHAT IT READS IS OF BULK AT MOST 1048576: true; the input reads as it did. -/
def evenPairsUptoRow : OpenClaim := { program := "ytoedkeopepanoaa", sum := "7a3c77e4b6ae86ea8018ce1ea2e809cc98ed1a5c4804aee3fe3cd0f149198625", func := "lotdrawer/lotdrawerkeep.EvenPairs", spec := "evenPairs", apart := false, narrowed := true }
def EvenPairsUptoSaid : Prop := evenPairsUptoRow.holds Try.pinned (OpenSpec.upto evenPairsSpec)

/-- 'lotdrawerkeep.EvenFar', WHERE WHAT IT READS IS OF BULK AT MOST 1048576: true; the input reads as it did. -/
def evenFarUptoRow : OpenClaim := { program := "ytoedkeopepanoaa", sum := "7a3c77e4b6ae86ea8018ce1ea2e809cc98ed1a5c4804aee3fe3cd0f149198625", func := "lotdrawer/lotdrawerkeep.EvenFar", spec := "evenFar", apart := false, narrowed := true }
def EvenFarUptoSaid : Prop := evenFarUptoRow.holds Try.pinned (OpenSpec.upto evenFarSpec)

end Rows
end Go.Proofs.Ytoedkeopepanoaa
