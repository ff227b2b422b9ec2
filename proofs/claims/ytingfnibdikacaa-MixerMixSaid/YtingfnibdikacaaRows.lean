/-
  No cell of these rows narrows 'for every input' (looked for: loops, veiled, ifaces, maps, wideKeys, modest, calm, conditions, laid).
  DERIVED. THE GIVEN ROWS OF THIS SEAT. 3 by the template 'for every input the law returns true; each argument reads behind the call as it read before'; 0 by the template 'total and deterministic' (their statements: YtingfnibdikacaaTotals.lean).
  GIVEN WITH THE SEED: the statements are not yours to turn. If you find one false, say at which input.
  Laid BY PROGRAM, IN A SANDBOX (cutbox-rows.mjs): the forced cells as the released guide's own fill.sh prints them over the translation 091ccf3fbf9c39f6… (all of the seat's roots in one cut). By AI agents, Wed Nov 11 2026. No macro, syntax, notation, axiom, sorry.
-/
import Derived.Test.YtingfnibdikacaaChecked
import GoSem.Claim
import GoSem.ClaimJoined
import GoSem.ClaimMapViews
import Derived.JoinedTies
import Derived.KernelRfl
namespace Go.Proofs.Ytingfnibdikacaa
/- THE CELL 'sum', in the pinned program and in every row, IS THE sha256 OF THE DUMP (.gsa) THAT YtingfnibdikacaaProg.lean LOADS. Nothing in Lean hashes anything: it is a label: what it is worth is what the hold of that sum in a sandbox is worth. -/
noncomputable def Try.pinned : Pinned := { name := "ytingfnibdikacaa", sum := "091ccf3fbf9c39f62b1c70da1aa864c50958c0dc6f4450c4be86c55ee1f20ce5", checked := Try.checked }
namespace Rows
def none {H : Type} : Left H := { results := [], args := [] }

/-- 'lotdrawerkeep.MixerMix': WHATEVER THE INPUT: true; the input reads as it did. -/
def mixerMixSpec : ChangeSpec := { name := "mixerMix", fn := fun _ => fun
  | [d1, d2, d3] => { results := [.lit (.bool true)], args := [d1, d2, d3] }
  | _ => none }
def mixerMixRow : OpenClaim := { program := "ytingfnibdikacaa", sum := "091ccf3fbf9c39f62b1c70da1aa864c50958c0dc6f4450c4be86c55ee1f20ce5", func := "lotdrawer/lotdrawerkeep.MixerMix", spec := "mixerMix", unfollowed := true, recurses := true, apart := false }
def MixerMixSaid : Prop := mixerMixRow.holds Try.pinned (OpenSpec.ofChange mixerMixSpec)

/-- ITS FALSE NEIGHBOUR: 'it returns false'. Refute it at one input. -/
def mixerMixWrong : ChangeSpec := { name := "mixerMix", fn := fun _ => fun
  | [d1, d2, d3] => { results := [.lit (.bool false)], args := [d1, d2, d3] }
  | _ => none }
def MixerMixWrongFalsely : Prop := mixerMixRow.holds Try.pinned (OpenSpec.ofChange mixerMixWrong)

/-- 'lotdrawerkeep.MixerSeed': WHATEVER THE INPUT: true; the input reads as it did. -/
def mixerSeedSpec : ChangeSpec := { name := "mixerSeed", fn := fun _ => fun
  | [d1, d2] => { results := [.lit (.bool true)], args := [d1, d2] }
  | _ => none }
def mixerSeedRow : OpenClaim := { program := "ytingfnibdikacaa", sum := "091ccf3fbf9c39f62b1c70da1aa864c50958c0dc6f4450c4be86c55ee1f20ce5", func := "lotdrawer/lotdrawerkeep.MixerSeed", spec := "mixerSeed", apart := false }
def MixerSeedSaid : Prop := mixerSeedRow.holds Try.pinned (OpenSpec.ofChange mixerSeedSpec)

/-- ITS FALSE NEIGHBOUR: 'it returns false'. Refute it at one input. -/
def mixerSeedWrong : ChangeSpec := { name := "mixerSeed", fn := fun _ => fun
  | [d1, d2] => { results := [.lit (.bool false)], args := [d1, d2] }
  | _ => none }
def MixerSeedWrongFalsely : Prop := mixerSeedRow.holds Try.pinned (OpenSpec.ofChange mixerSeedWrong)

/-- 'lotdrawerkeep.MixerBack': WHATEVER THE INPUT: true; the input reads as it did. -/
def mixerBackSpec : ChangeSpec := { name := "mixerBack", fn := fun _ => fun
  | [d1, d2] => { results := [.lit (.bool true)], args := [d1, d2] }
  | _ => none }
def mixerBackRow : OpenClaim := { program := "ytingfnibdikacaa", sum := "091ccf3fbf9c39f62b1c70da1aa864c50958c0dc6f4450c4be86c55ee1f20ce5", func := "lotdrawer/lotdrawerkeep.MixerBack", spec := "mixerBack", apart := false }
def MixerBackSaid : Prop := mixerBackRow.holds Try.pinned (OpenSpec.ofChange mixerBackSpec)

/-- ITS FALSE NEIGHBOUR: 'it returns false'. Refute it at one input. -/
def mixerBackWrong : ChangeSpec := { name := "mixerBack", fn := fun _ => fun
  | [d1, d2] => { results := [.lit (.bool false)], args := [d1, d2] }
  | _ => none }
def MixerBackWrongFalsely : Prop := mixerBackRow.holds Try.pinned (OpenSpec.ofChange mixerBackWrong)

/- THE SECOND FORM. 'bulk': how many values and letters a reading holds, each counted each time it is reached (what is shared counts as often as it is met; a slice's spare places count too). A statement '..UptoSaid' is the law's where the arguments, and the package variables that the reading takes, are together of bulk at most 1048576: NARROWER than '..Said'. Prove '..Said' where nothing that the law and all that it calls make is longer than what came in: it says more and counts as full. Else prove '..UptoSaid'. A law counts once. -/
mutual
def uptoBulk {H : Type} : DataW H → Nat
  | .lit (.string bytes) => bytes.length + 1
  | .lit _ => 1
  | .nil => 1
  | .ptr d => uptoBulk d + 1
  | .slice elems spare => uptoBulkAll elems + uptoBulkAll spare + 1
  | .agg parts => uptoBulkAll parts + 1
  | .iface _ d => uptoBulk d + 1
  | .map entries => uptoBulkEntries entries + 1
  | .held _ => 1
def uptoBulkAll {H : Type} : List (DataW H) → Nat
  | [] => 0
  | d :: r => uptoBulk d + uptoBulkAll r
def uptoBulkEntries {H : Type} : List (Lit × DataW H) → Nat
  | [] => 0
  | x :: r => uptoBulkEntry x + uptoBulkEntries r
def uptoBulkEntry {H : Type} : Lit × DataW H → Nat
  | (.string bytes, d) => bytes.length + uptoBulk d + 1
  | (_, d) => uptoBulk d + 1
 end
def uptoSmall : (H : Type) → List (DataW H) → Bool := fun _ ds => decide (uptoBulkAll ds ≤ 1048576)
def OpenSpec.upto (s : _root_.Go.ChangeSpec) : _root_.Go.OpenSpec := { _root_.Go.OpenSpec.ofChange s with cond := some uptoSmall }

/-- 'lotdrawerkeep.MixerMix', WHERE WHAT IT READS IS OF BULK AT MOST 1048576: true; the input reads as it did. -/
def mixerMixUptoRow : OpenClaim := { program := "ytingfnibdikacaa", sum := "091ccf3fbf9c39f62b1c70da1aa864c50958c0dc6f4450c4be86c55ee1f20ce5", func := "lotdrawer/lotdrawerkeep.MixerMix", spec := "mixerMix", unfollowed := true, recurses := true, apart := false, narrowed := true }
def MixerMixUptoSaid : Prop := mixerMixUptoRow.holds Try.pinned (OpenSpec.upto mixerMixSpec)

/-- 'lotdrawerkeep.MixerSeed', WHERE WHAT IT READS IS OF BULK AT MOST 1048576: true; the input reads as it did. -/
def mixerSeedUptoRow : OpenClaim := { program := "ytingfnibdikacaa", sum := "091ccf3fbf9c39f62b1c70da1aa864c50958c0dc6f4450c4be86c55ee1f20ce5", func := "lotdrawer/lotdrawerkeep.MixerSeed", spec := "mixerSeed", apart := false, narrowed := true }
def MixerSeedUptoSaid : Prop := mixerSeedUptoRow.holds Try.pinned (OpenSpec.upto mixerSeedSpec)

/-- 'lotdrawerkeep.MixerBack', WHERE WHAT IT READS IS OF BULK AT MOST 1048576: true; the input reads as it did. -/
def mixerBackUptoRow : OpenClaim := { program := "ytingfnibdikacaa", sum := "091ccf3fbf9c39f62b1c70da1aa864c50958c0dc6f4450c4be86c55ee1f20ce5", func := "lotdrawer/lotdrawerkeep.MixerBack", spec := "mixerBack", apart := false, narrowed := true }
def MixerBackUptoSaid : Prop := mixerBackUptoRow.holds Try.pinned (OpenSpec.upto mixerBackSpec)

end Rows
end Go.Proofs.Ytingfnibdikacaa
