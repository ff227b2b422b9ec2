/-
  No cell of these rows narrows 'for every input' (looked for: loops, veiled, ifaces, maps, wideKeys, modest, calm, conditions, laid).
  DERIVED. THE GIVEN ROWS OF THIS SEAT. 3 by the template 'for every input the law returns true; each argument reads behind the call as it read before'; 0 by the template 'total and deterministic' (their statements: YtkebahdapkjacaaTotals.lean).
  GIVEN WITH THE SEED: the statements are not yours to turn. If you find one false, say at which input.
  Laid BY PROGRAM, IN A SANDBOX (cutbox-rows.mjs): the forced cells as the released guide's own fill.sh prints them over the translation eed60a9fd23d5e57… (all of the seat's roots in one cut). By AI agents, Wed Nov 11 2026. No macro, syntax, notation, axiom, sorry.
-/
import Derived.Test.YtkebahdapkjacaaChecked
import GoSem.Claim
import GoSem.ClaimJoined
import GoSem.ClaimMapViews
import Derived.JoinedTies
import Derived.KernelRfl
namespace Go.Proofs.Ytkebahdapkjacaa
/- THE CELL 'sum', in the pinned program and in every row, IS THE sha256 OF THE DUMP (.gsa) THAT YtkebahdapkjacaaProg.lean LOADS. Nothing in Lean hashes anything: it is a label: what it is worth is what the hold of that sum in a sandbox is worth. -/
noncomputable def Try.pinned : Pinned := { name := "ytkebahdapkjacaa", sum := "eed60a9fd23d5e57611093c69627ac3dd26bb7eaefcc3ad971cd761404a7f148", checked := Try.checked }
namespace Rows
def none {H : Type} : Left H := { results := [], args := [] }

/-- 'lotdrawerkeep.JoinEven': WHATEVER THE INPUT: true; the input reads as it did. -/
def joinEvenSpec : ChangeSpec := { name := "joinEven", fn := fun _ => fun
  | [d1, d2, d3] => { results := [.lit (.bool true)], args := [d1, d2, d3] }
  | _ => none }
def joinEvenRow : OpenClaim := { program := "ytkebahdapkjacaa", sum := "eed60a9fd23d5e57611093c69627ac3dd26bb7eaefcc3ad971cd761404a7f148", func := "lotdrawer/lotdrawerkeep.JoinEven", spec := "joinEven", unfollowed := true, recurses := true, apart := false }
def JoinEvenSaid : Prop := joinEvenRow.holds Try.pinned (OpenSpec.ofChange joinEvenSpec)

/-- ITS FALSE NEIGHBOUR: 'it returns false'. Refute it at one input. -/
def joinEvenWrong : ChangeSpec := { name := "joinEven", fn := fun _ => fun
  | [d1, d2, d3] => { results := [.lit (.bool false)], args := [d1, d2, d3] }
  | _ => none }
def JoinEvenWrongFalsely : Prop := joinEvenRow.holds Try.pinned (OpenSpec.ofChange joinEvenWrong)

/-- 'lotdrawerkeep.JoinCount': WHATEVER THE INPUT: true; the input reads as it did. -/
def joinCountSpec : ChangeSpec := { name := "joinCount", fn := fun _ => fun
  | [d1, d2, d3] => { results := [.lit (.bool true)], args := [d1, d2, d3] }
  | _ => none }
def joinCountRow : OpenClaim := { program := "ytkebahdapkjacaa", sum := "eed60a9fd23d5e57611093c69627ac3dd26bb7eaefcc3ad971cd761404a7f148", func := "lotdrawer/lotdrawerkeep.JoinCount", spec := "joinCount", unfollowed := true, recurses := true, apart := false }
def JoinCountSaid : Prop := joinCountRow.holds Try.pinned (OpenSpec.ofChange joinCountSpec)

/-- ITS FALSE NEIGHBOUR: 'it returns false'. Refute it at one input. -/
def joinCountWrong : ChangeSpec := { name := "joinCount", fn := fun _ => fun
  | [d1, d2, d3] => { results := [.lit (.bool false)], args := [d1, d2, d3] }
  | _ => none }
def JoinCountWrongFalsely : Prop := joinCountRow.holds Try.pinned (OpenSpec.ofChange joinCountWrong)

/-- 'lotdrawerkeep.JoinNone': WHATEVER THE INPUT: true; the input reads as it did. -/
def joinNoneSpec : ChangeSpec := { name := "joinNone", fn := fun _ => fun
  | [d1, d2, d3, d4] => { results := [.lit (.bool true)], args := [d1, d2, d3, d4] }
  | _ => none }
def joinNoneRow : OpenClaim := { program := "ytkebahdapkjacaa", sum := "eed60a9fd23d5e57611093c69627ac3dd26bb7eaefcc3ad971cd761404a7f148", func := "lotdrawer/lotdrawerkeep.JoinNone", spec := "joinNone", unfollowed := true, recurses := true, apart := false }
def JoinNoneSaid : Prop := joinNoneRow.holds Try.pinned (OpenSpec.ofChange joinNoneSpec)

/-- ITS FALSE NEIGHBOUR: 'it returns false'. Refute it at one input. -/
def joinNoneWrong : ChangeSpec := { name := "joinNone", fn := fun _ => fun
  | [d1, d2, d3, d4] => { results := [.lit (.bool false)], args := [d1, d2, d3, d4] }
  | _ => none }
def JoinNoneWrongFalsely : Prop := joinNoneRow.holds Try.pinned (OpenSpec.ofChange joinNoneWrong)

/- THE SECOND FORM. 'bulk': how many values and letters a reading holds, each counted each time it is reached (what is shared counts as often as it is met; a slice's spare places count too). A statement '..UptoSaid' is the law's where the arguments, and the package variables that the reading takes, are together of bulk at most 1048576: NARROWER than '..Said'. Prove '..Said' where nothing that the law and all that it calls make is longer than what came in: it says more and counts as full. Else prove '..UptoSaid'. A law counts once. -/
mutual
def uptoBulk {H : Type} : DataW H → Nat
  | .lit (.string bytes) => bytes.length + 1
  | .lit _ => 1
  | .nil => 1
  | .ptr d => uptoBulk d + 1
  | .slice elems spare => uptoBulkAll elems + uptoBulkAll spare + 1
  | .agg parts => uptoBulkAll parts + 1
  | .iface _ d => uptoBulk d + 1
  | .map entries => uptoBulkEntries entries + 1
  | .held _ => 1
def uptoBulkAll {H : Type} : List (DataW H) → Nat
  | [] => 0
  | d :: r => uptoBulk d + uptoBulkAll r
def uptoBulkEntries {H : Type} : List (Lit × DataW H) → Nat
  | [] => 0
  | x :: r => uptoBulkEntry x + uptoBulkEntries r
def uptoBulkEntry {H : Type} : Lit × DataW H → Nat
  | (.string bytes, d) => bytes.length + uptoBulk d + 1
  | (_, d) => uptoBulk d + 1
 end
def uptoSmall : (H : Type) → List (DataW H) → Bool := fun _ ds => decide (uptoBulkAll ds ≤ 1048576)
def OpenSpec.upto (s : _root_.Go.ChangeSpec) : _root_.Go.OpenSpec := { _root_.Go.OpenSpec.ofChange s with cond := some uptoSmall }

/-- 'lotdrawerkeep.JoinEven', WHERE WHAT IT READS IS OF BULK AT MOST 1048576: true; the input reads as it did. -/
def joinEvenUptoRow : OpenClaim := { program := "ytkebahdapkjacaa", sum := "eed60a9fd23d5e57611093c69627ac3dd26bb7eaefcc3ad971cd761404a7f148", func := "lotdrawer/lotdrawerkeep.JoinEven", spec := "joinEven", unfollowed := true, recurses := true, apart := false, narrowed := true }
def JoinEvenUptoSaid : Prop := joinEvenUptoRow.holds Try.pinned (OpenSpec.upto joinEvenSpec)

/-- 'lotdrawerkeep.JoinCount', WHERE WHAT IT READS IS OF BULK AT MOST 1048576: true; the input reads as it did. -/
def joinCountUptoRow : OpenClaim := { program := "ytkebahdapkjacaa", sum := "eed60a9fd23d5e57611093c69627ac3dd26bb7eaefcc3ad971cd761404a7f148", func := "lotdrawer/lotdrawerkeep.JoinCount", spec := "joinCount", unfollowed := true, recurses := true, apart := false, narrowed := true }
def JoinCountUptoSaid : Prop := joinCountUptoRow.holds Try.pinned (OpenSpec.upto joinCountSpec)

/-- 'lotdrawerkeep.JoinNone', WHERE WHAT IT READS IS OF BULK AT MOST 1048576: true; the input reads as it did. -/
def joinNoneUptoRow : OpenClaim := { program := "ytkebahdapkjacaa", sum := "eed60a9fd23d5e57611093c69627ac3dd26bb7eaefcc3ad971cd761404a7f148", func := "lotdrawer/lotdrawerkeep.JoinNone", spec := "joinNone", unfollowed := true, recurses := true, apart := false, narrowed := true }
def JoinNoneUptoSaid : Prop := joinNoneUptoRow.holds Try.pinned (OpenSpec.upto joinNoneSpec)

end Rows
end Go.Proofs.Ytkebahdapkjacaa
