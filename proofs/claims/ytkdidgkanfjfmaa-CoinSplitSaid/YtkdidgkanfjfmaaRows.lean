/-
  No cell of these rows narrows 'for every input' (looked for: loops, veiled, ifaces, maps, wideKeys, modest, calm, conditions, laid).
  DERIVED. THE GIVEN ROWS OF THIS SEAT. 5 by the template 'for every input the law returns true; each argument reads behind the call as it read before'; 0 by the template 'total and deterministic' (their statements: YtkdidgkanfjfmaaTotals.lean).
  GIVEN WITH THE SEED: the statements are not yours to turn. If you find one false, say at which input.
  Laid BY PROGRAM, IN A SANDBOX (cutbox-rows.mjs): the forced cells as the released guide's own fill.sh prints them over the translation fd880f398740151a… (all of the seat's roots in one cut). By AI agents, Wed Nov 11 2026. No macro, syntax, notation, axiom, sorry.
-/
import Derived.Test.YtkdidgkanfjfmaaChecked
import GoSem.Claim
import GoSem.ClaimJoined
import GoSem.ClaimMapViews
import Derived.JoinedTies
import Derived.KernelRfl
namespace Go.Proofs.Ytkdidgkanfjfmaa
/- THE CELL 'sum', in the pinned program and in every row, IS THE sha256 OF THE DUMP (.gsa) THAT YtkdidgkanfjfmaaProg.lean LOADS. Nothing in Lean hashes anything: it is a label: what it is worth is what the hold of that sum in a sandbox is worth. -/
noncomputable def Try.pinned : Pinned := { name := "ytkdidgkanfjfmaa", sum := "fd880f398740151a3ccc61af1e1e90d840c69c1d8dc276d925e38b91da463c12", checked := Try.checked }
namespace Rows
def none {H : Type} : Left H := { results := [], args := [] }

/-- 'lotdrawerkeep.CoinLikely': WHATEVER THE INPUT: true; the input reads as it did. -/
def coinLikelySpec : ChangeSpec := { name := "coinLikely", fn := fun _ => fun
  | [d1, d2] => { results := [.lit (.bool true)], args := [d1, d2] }
  | _ => none }
def coinLikelyRow : OpenClaim := { program := "ytkdidgkanfjfmaa", sum := "fd880f398740151a3ccc61af1e1e90d840c69c1d8dc276d925e38b91da463c12", func := "lotdrawer/lotdrawerkeep.CoinLikely", spec := "coinLikely", apart := false }
def CoinLikelySaid : Prop := coinLikelyRow.holds Try.pinned (OpenSpec.ofChange coinLikelySpec)

/-- ITS FALSE NEIGHBOUR: 'it returns false'. Refute it at one input. -/
def coinLikelyWrong : ChangeSpec := { name := "coinLikely", fn := fun _ => fun
  | [d1, d2] => { results := [.lit (.bool false)], args := [d1, d2] }
  | _ => none }
def CoinLikelyWrongFalsely : Prop := coinLikelyRow.holds Try.pinned (OpenSpec.ofChange coinLikelyWrong)

/-- 'lotdrawerkeep.CoinMore': WHATEVER THE INPUT: true; the input reads as it did. -/
def coinMoreSpec : ChangeSpec := { name := "coinMore", fn := fun _ => fun
  | [d1, d2, d3] => { results := [.lit (.bool true)], args := [d1, d2, d3] }
  | _ => none }
def coinMoreRow : OpenClaim := { program := "ytkdidgkanfjfmaa", sum := "fd880f398740151a3ccc61af1e1e90d840c69c1d8dc276d925e38b91da463c12", func := "lotdrawer/lotdrawerkeep.CoinMore", spec := "coinMore", apart := false }
def CoinMoreSaid : Prop := coinMoreRow.holds Try.pinned (OpenSpec.ofChange coinMoreSpec)

/-- ITS FALSE NEIGHBOUR: 'it returns false'. Refute it at one input. -/
def coinMoreWrong : ChangeSpec := { name := "coinMore", fn := fun _ => fun
  | [d1, d2, d3] => { results := [.lit (.bool false)], args := [d1, d2, d3] }
  | _ => none }
def CoinMoreWrongFalsely : Prop := coinMoreRow.holds Try.pinned (OpenSpec.ofChange coinMoreWrong)

/-- 'lotdrawerkeep.CoinTurns': WHATEVER THE INPUT: true; the input reads as it did. -/
def coinTurnsSpec : ChangeSpec := { name := "coinTurns", fn := fun _ => fun
  | [d1, d2] => { results := [.lit (.bool true)], args := [d1, d2] }
  | _ => none }
def coinTurnsRow : OpenClaim := { program := "ytkdidgkanfjfmaa", sum := "fd880f398740151a3ccc61af1e1e90d840c69c1d8dc276d925e38b91da463c12", func := "lotdrawer/lotdrawerkeep.CoinTurns", spec := "coinTurns", apart := false }
def CoinTurnsSaid : Prop := coinTurnsRow.holds Try.pinned (OpenSpec.ofChange coinTurnsSpec)

/-- ITS FALSE NEIGHBOUR: 'it returns false'. Refute it at one input. -/
def coinTurnsWrong : ChangeSpec := { name := "coinTurns", fn := fun _ => fun
  | [d1, d2] => { results := [.lit (.bool false)], args := [d1, d2] }
  | _ => none }
def CoinTurnsWrongFalsely : Prop := coinTurnsRow.holds Try.pinned (OpenSpec.ofChange coinTurnsWrong)

/-- 'lotdrawerkeep.CoinSplit': WHATEVER THE INPUT: true; the input reads as it did. -/
def coinSplitSpec : ChangeSpec := { name := "coinSplit", fn := fun _ => fun
  | [d1, d2] => { results := [.lit (.bool true)], args := [d1, d2] }
  | _ => none }
def coinSplitRow : OpenClaim := { program := "ytkdidgkanfjfmaa", sum := "fd880f398740151a3ccc61af1e1e90d840c69c1d8dc276d925e38b91da463c12", func := "lotdrawer/lotdrawerkeep.CoinSplit", spec := "coinSplit", apart := false }
def CoinSplitSaid : Prop := coinSplitRow.holds Try.pinned (OpenSpec.ofChange coinSplitSpec)

/-- ITS FALSE NEIGHBOUR: 'it returns false'. Refute it at one input. -/
def coinSplitWrong : ChangeSpec := { name := "coinSplit", fn := fun _ => fun
  | [d1, d2] => { results := [.lit (.bool false)], args := [d1, d2] }
  | _ => none }
def CoinSplitWrongFalsely : Prop := coinSplitRow.holds Try.pinned (OpenSpec.ofChange coinSplitWrong)

/-- 'lotdrawerkeep.CoinNot': WHATEVER THE INPUT: true; the input reads as it did. -/
def coinNotSpec : ChangeSpec := { name := "coinNot", fn := fun _ => fun
  | [d1, d2] => { results := [.lit (.bool true)], args := [d1, d2] }
  | _ => none }
def coinNotRow : OpenClaim := { program := "ytkdidgkanfjfmaa", sum := "fd880f398740151a3ccc61af1e1e90d840c69c1d8dc276d925e38b91da463c12", func := "lotdrawer/lotdrawerkeep.CoinNot", spec := "coinNot", apart := false }
def CoinNotSaid : Prop := coinNotRow.holds Try.pinned (OpenSpec.ofChange coinNotSpec)

/-- ITS FALSE NEIGHBOUR: 'it returns false'. Refute it at one input. -/
def coinNotWrong : ChangeSpec := { name := "coinNot", fn := fun _ => fun
  | [d1, d2] => { results := [.lit (.bool false)], args := [d1, d2] }
  | _ => none }
def CoinNotWrongFalsely : Prop := coinNotRow.holds Try.pinned (OpenSpec.ofChange coinNotWrong)

/- THE SECOND FORM. 'bulk': how many values and letters a reading holds, each counted each time it is reached (what is shared counts as often as it is met; a slice's spare places count too). A statement '..UptoSaid' is the law's where the arguments, and the package variables that the reading takes, are together of bulk at most 1048576: NARROWER than '..Said'. Prove '..Said' where nothing that the law and all that it calls make is longer than what came in: it says more and counts as full. Else prove '..UptoSaid'. A law counts once. -/
mutual
def uptoBulk {H : Type} : DataW H → Nat
  | .lit (.string bytes) => bytes.length + 1
  | .lit _ => 1
  | .nil => 1
  | .ptr d => uptoBulk d + 1
  | .slice elems spare => uptoBulkAll elems + uptoBulkAll spare + 1
  | .agg parts => uptoBulkAll parts + 1
  | .iface _ d => uptoBulk d + 1
  | .map entries => uptoBulkEntries entries + 1
  | .held _ => 1
def uptoBulkAll {H : Type} : List (DataW H) → Nat
  | [] => 0
  | d :: r => uptoBulk d + uptoBulkAll r
def uptoBulkEntries {H : Type} : List (Lit × DataW H) → Nat
  | [] => 0
  | x :: r => uptoBulkEntry x + uptoBulkEntries r
def uptoBulkEntry {H : Type} : Lit × DataW H → Nat
  | (.string bytes, d) => bytes.length + uptoBulk d + 1
  | (_, d) => uptoBulk d + 1
 end
def uptoSmall : (H : Type) → List (DataW H) → Bool := fun _ ds => decide (uptoBulkAll ds ≤ 1048576)
def OpenSpec.upto (s : _root_.Go.ChangeSpec) : _root_.Go.OpenSpec := { _root_.Go.OpenSpec.ofChange s with cond := some uptoSmall }

/-- 'lotdrawerkeep.CoinLikely', WHERE WHAT IT READS IS OF BULK AT MOST 1048576: true; the input reads as it did. -/
def coinLikelyUptoRow : OpenClaim := { program := "ytkdidgkanfjfmaa", sum := "fd880f398740151a3ccc61af1e1e90d840c69c1d8dc276d925e38b91da463c12", func := "lotdrawer/lotdrawerkeep.CoinLikely", spec := "coinLikely", apart := false, narrowed := true }
def CoinLikelyUptoSaid : Prop := coinLikelyUptoRow.holds Try.pinned (OpenSpec.upto coinLikelySpec)

/-- 'lotdrawerkeep.CoinMore', WHERE WHAT IT READS IS OF BULK AT MOST 1048576: true; the input reads as it did. -/
def coinMoreUptoRow : OpenClaim := { program := "ytkdidgkanfjfmaa", sum := "fd880f398740151a3ccc61af1e1e90d840c69c1d8dc276d925e38b91da463c12", func := "lotdrawer/lotdrawerkeep.CoinMore", spec := "coinMore", apart := false, narrowed := true }
def CoinMoreUptoSaid : Prop := coinMoreUptoRow.holds Try.pinned (OpenSpec.upto coinMoreSpec)

/-- 'lotdrawerkeep.CoinTurns', WHERE WHAT IT READS IS OF BULK AT MOST 1048576: true; the input reads as it did. -/
def coinTurnsUptoRow : OpenClaim := { program := "ytkdidgkanfjfmaa", sum := "fd880f398740151a3ccc61af1e1e90d840c69c1d8dc276d925e38b91da463c12", func := "lotdrawer/lotdrawerkeep.CoinTurns", spec := "coinTurns", apart := false, narrowed := true }
def CoinTurnsUptoSaid : Prop := coinTurnsUptoRow.holds Try.pinned (OpenSpec.upto coinTurnsSpec)

/-- 'lotdrawerkeep.CoinSplit', WHERE WHAT IT READS IS OF BULK AT MOST 1048576: true; the input reads as it did. -/
def coinSplitUptoRow : OpenClaim := { program := "ytkdidgkanfjfmaa", sum := "fd880f398740151a3ccc61af1e1e90d840c69c1d8dc276d925e38b91da463c12", func := "lotdrawer/lotdrawerkeep.CoinSplit", spec := "coinSplit", apart := false, narrowed := true }
def CoinSplitUptoSaid : Prop := coinSplitUptoRow.holds Try.pinned (OpenSpec.upto coinSplitSpec)

/-- 'lotdrawerkeep.CoinNot', WHERE WHAT IT READS IS OF BULK AT MOST 1048576: true; the input reads as it did. -/
def coinNotUptoRow : OpenClaim := { program := "ytkdidgkanfjfmaa", sum := "fd880f398740151a3ccc61af1e1e90d840c69c1d8dc276d925e38b91da463c12", func := "lotdrawer/lotdrawerkeep.CoinNot", spec := "coinNot", apart := false, narrowed := true }
def CoinNotUptoSaid : Prop := coinNotUptoRow.holds Try.pinned (OpenSpec.upto coinNotSpec)

end Rows
end Go.Proofs.Ytkdidgkanfjfmaa
