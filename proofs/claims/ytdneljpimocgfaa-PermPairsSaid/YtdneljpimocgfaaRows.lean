/-
  No cell of these rows narrows 'for every input' (looked for: loops, veiled, ifaces, maps, wideKeys, modest, calm, conditions, laid).
  DERIVED. THE GIVEN ROWS OF THIS SEAT. 4 by the template 'for every input the law returns true; each argument reads behind the call as it read before'; 0 by the template 'total and deterministic' (their statements: YtdneljpimocgfaaTotals.lean).
  GIVEN WITH THE SEED: the statements are not yours to turn. If you find one false, say at which input.
  Laid BY PROGRAM, IN A SANDBOX (cutbox-rows.mjs): the forced cells as the released guide's own fill.sh prints them over the translation c8edd257bb7f76c4… (all of the seat's roots in one cut). By AI agents, Wed Nov 11 2026. No macro, syntax, notation, axiom, sorry.
-/
import Derived.Test.YtdneljpimocgfaaChecked
import GoSem.Claim
import GoSem.ClaimJoined
import GoSem.ClaimMapViews
import Derived.JoinedTies
import Derived.KernelRfl
namespace Go.Proofs.Ytdneljpimocgfaa
/- THE CELL 'sum', in the pinned program and in every row, IS THE sha256 OF THE DUMP (.gsa) THAT YtdneljpimocgfaaProg.lean LOADS. Nothing in Lean hashes anything: it is a label: what it is worth is what the hold of that sum in a sandbox is worth. -/
noncomputable def Try.pinned : Pinned := { name := "ytdneljpimocgfaa", sum := "c8edd257bb7f76c40b19ce0a13d02ccd0ecd4320099c4dfe348b3a3308640a94", checked := Try.checked }
namespace Rows
def none {H : Type} : Left H := { results := [], args := [] }

/-- 'lotdrawerkeep.PermEach': WHATEVER THE INPUT: true; the input reads as it did. -/
def permEachSpec : ChangeSpec := { name := "permEach", fn := fun _ => fun
  | [d] => { results := [.lit (.bool true)], args := [d] }
  | _ => none }
def permEachRow : OpenClaim := { program := "ytdneljpimocgfaa", sum := "c8edd257bb7f76c40b19ce0a13d02ccd0ecd4320099c4dfe348b3a3308640a94", func := "lotdrawer/lotdrawerkeep.PermEach", spec := "permEach", apart := false }
def PermEachSaid : Prop := permEachRow.holds Try.pinned (OpenSpec.ofChange permEachSpec)

/-- ITS FALSE NEIGHBOUR: 'it returns false'. Refute it at one input. -/
def permEachWrong : ChangeSpec := { name := "permEach", fn := fun _ => fun
  | [d] => { results := [.lit (.bool false)], args := [d] }
  | _ => none }
def PermEachWrongFalsely : Prop := permEachRow.holds Try.pinned (OpenSpec.ofChange permEachWrong)

/-- 'lotdrawerkeep.PermBack': WHATEVER THE INPUT: true; the input reads as it did. -/
def permBackSpec : ChangeSpec := { name := "permBack", fn := fun _ => fun
  | [d1, d2, d3] => { results := [.lit (.bool true)], args := [d1, d2, d3] }
  | _ => none }
def permBackRow : OpenClaim := { program := "ytdneljpimocgfaa", sum := "c8edd257bb7f76c40b19ce0a13d02ccd0ecd4320099c4dfe348b3a3308640a94", func := "lotdrawer/lotdrawerkeep.PermBack", spec := "permBack", apart := false }
def PermBackSaid : Prop := permBackRow.holds Try.pinned (OpenSpec.ofChange permBackSpec)

/-- ITS FALSE NEIGHBOUR: 'it returns false'. Refute it at one input. -/
def permBackWrong : ChangeSpec := { name := "permBack", fn := fun _ => fun
  | [d1, d2, d3] => { results := [.lit (.bool false)], args := [d1, d2, d3] }
  | _ => none }
def PermBackWrongFalsely : Prop := permBackRow.holds Try.pinned (OpenSpec.ofChange permBackWrong)

/-- 'lotdrawerkeep.PermPairs': WHATEVER THE INPUT: true; the input reads as it did. -/
def permPairsSpec : ChangeSpec := { name := "permPairs", fn := fun _ => fun
  | [d1, d2] => { results := [.lit (.bool true)], args := [d1, d2] }
  | _ => none }
def permPairsRow : OpenClaim := { program := "ytdneljpimocgfaa", sum := "c8edd257bb7f76c40b19ce0a13d02ccd0ecd4320099c4dfe348b3a3308640a94", func := "lotdrawer/lotdrawerkeep.PermPairs", spec := "permPairs", unfollowed := true, recurses := true, apart := false }
def PermPairsSaid : Prop := permPairsRow.holds Try.pinned (OpenSpec.ofChange permPairsSpec)

/-- ITS FALSE NEIGHBOUR: 'it returns false'. Refute it at one input. -/
def permPairsWrong : ChangeSpec := { name := "permPairs", fn := fun _ => fun
  | [d1, d2] => { results := [.lit (.bool false)], args := [d1, d2] }
  | _ => none }
def PermPairsWrongFalsely : Prop := permPairsRow.holds Try.pinned (OpenSpec.ofChange permPairsWrong)

/-- 'lotdrawerkeep.PermGroup': WHATEVER THE INPUT: true; the input reads as it did. -/
def permGroupSpec : ChangeSpec := { name := "permGroup", fn := fun _ => fun
  | [d1, d2, d3] => { results := [.lit (.bool true)], args := [d1, d2, d3] }
  | _ => none }
def permGroupRow : OpenClaim := { program := "ytdneljpimocgfaa", sum := "c8edd257bb7f76c40b19ce0a13d02ccd0ecd4320099c4dfe348b3a3308640a94", func := "lotdrawer/lotdrawerkeep.PermGroup", spec := "permGroup", apart := false }
def PermGroupSaid : Prop := permGroupRow.holds Try.pinned (OpenSpec.ofChange permGroupSpec)

/-- ITS FALSE NEIGHBOUR: 'it returns false'. Refute it at one input. -/
def permGroupWrong : ChangeSpec := { name := "permGroup", fn := fun _ => fun
  | [d1, d2, d3] => { results := [.lit (.bool false)], args := [d1, d2, d3] }
  | _ => none }
def PermGroupWrongFalsely : Prop := permGroupRow.holds Try.pinned (OpenSpec.ofChange permGroupWrong)

/- THE SECOND FORM. 'bulk': how many values and letters a reading holds, each counted each time it is reached (what is shared counts as often as it is met; a slice's spare places count too). A statement '..UptoSaid' is the law's where the arguments, and the package variables that the reading takes, are together of bulk at most 1048576: NARROWER than '..Said'. Prove '..Said' where nothing that the law and all that it calls make is longer than what came in: it says more and counts as full. Else prove '..UptoSaid'. A law counts once. -/
mutual
def uptoBulk {H : Type} : DataW H → Nat
  | .lit (.string bytes) => bytes.length + 1
  | .lit _ => 1
  | .nil => 1
  | .ptr d => uptoBulk d + 1
  | .slice elems spare => uptoBulkAll elems + uptoBulkAll spare + 1
  | .agg parts => uptoBulkAll parts + 1
  | .iface _ d => uptoBulk d + 1
  | .map entries => uptoBulkEntries entries + 1
  | .held _ => 1
def uptoBulkAll {H : Type} : List (DataW H) → Nat
  | [] => 0
  | d :: r => uptoBulk d + uptoBulkAll r
def uptoBulkEntries {H : Type} : List (Lit × DataW H) → Nat
  | [] => 0
  | x :: r => uptoBulkEntry x + uptoBulkEntries r
def uptoBulkEntry {H : Type} : Lit × DataW H → Nat
  | (.string bytes, d) => bytes.length + uptoBulk d + 1
  | (_, d) => uptoBulk d + 1
 end
def uptoSmall : (H : Type) → List (DataW H) → Bool := fun _ ds => decide (uptoBulkAll ds ≤ 1048576)
def OpenSpec.upto (s : _root_.Go.ChangeSpec) : _root_.Go.OpenSpec := { _root_.Go.OpenSpec.ofChange s with cond := some uptoSmall }

/-- 'lotdrawerkeep.PermEach', WHERE WHAT IT READS IS OF BULK AT MOST 1048576: true; the input reads as it did. -/
def permEachUptoRow : OpenClaim := { program := "ytdneljpimocgfaa", sum := "c8edd257bb7f76c40b19ce0a13d02ccd0ecd4320099c4dfe348b3a3308640a94", func := "lotdrawer/lotdrawerkeep.PermEach", spec := "permEach", apart := false, narrowed := true }
def PermEachUptoSaid : Prop := permEachUptoRow.holds Try.pinned (OpenSpec.upto permEachSpec)

/-- 'lotdrawerkeep.PermBack', WHERE WHAT IT READS IS OF BULK AT MOST 1048576: true; the input reads as it did. -/
def permBackUptoRow : OpenClaim := { program := "ytdneljpimocgfaa", sum := "c8edd257bb7f76c40b19ce0a13d02ccd0ecd4320099c4dfe348b3a3308640a94", func := "lotdrawer/lotdrawerkeep.PermBack", spec := "permBack", apart := false, narrowed := true }
def PermBackUptoSaid : Prop := permBackUptoRow.holds Try.pinned (OpenSpec.upto permBackSpec)

/-- 'lotdrawerkeep.PermPairs', WHERE WHAT IT READS IS OF BULK AT MOST 1048576: true; the input reads as it did. -/
def permPairsUptoRow : OpenClaim := { program := "ytdneljpimocgfaa", sum := "c8edd257bb7f76c40b19ce0a13d02ccd0ecd4320099c4dfe348b3a3308640a94", func := "lotdrawer/lotdrawerkeep.PermPairs", spec := "permPairs", unfollowed := true, recurses := true, apart := false, narrowed := true }
def PermPairsUptoSaid : Prop := permPairsUptoRow.holds Try.pinned (OpenSpec.upto permPairsSpec)

/-- 'lotdrawerkeep.PermGroup', WHERE WHAT IT READS IS OF BULK AT MOST 1048576: true; the input reads as it did. -/
def permGroupUptoRow : OpenClaim := { program := "ytdneljpimocgfaa", sum := "c8edd257bb7f76c40b19ce0a13d02ccd0ecd4320099c4dfe348b3a3308640a94", func := "lotdrawer/lotdrawerkeep.PermGroup", spec := "permGroup", apart := false, narrowed := true }
def PermGroupUptoSaid : Prop := permGroupUptoRow.holds Try.pinned (OpenSpec.upto permGroupSpec)

end Rows
end Go.Proofs.Ytdneljpimocgfaa
