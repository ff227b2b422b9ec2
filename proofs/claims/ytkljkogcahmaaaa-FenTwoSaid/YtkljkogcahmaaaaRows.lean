/-
  No cell of these rows narrows 'for every input' (looked for: loops, veiled, ifaces, maps, wideKeys, modest, calm, conditions, laid).
  DERIVED. THE GIVEN ROWS OF THIS SEAT. 4 by the template 'for every input the law returns true; each argument reads behind the call as it read before'; 0 by the template 'total and deterministic' (their statements: YtkljkogcahmaaaaTotals.lean).
  GIVEN WITH THE SEED: the statements are not yours to turn. If you find one false, say at which input.
  Laid BY PROGRAM, IN A SANDBOX (cutbox-rows.mjs): the forced cells as the released guide's own fill.sh prints them over the translation 270ca315c244b985… (all of the seat's roots in one cut). By AI agents, Wed Nov 11 2026. No macro, syntax, notation, axiom, sorry.
-/
import Derived.Test.YtkljkogcahmaaaaChecked
import GoSem.Claim
import GoSem.ClaimJoined
import GoSem.ClaimMapViews
import Derived.JoinedTies
import Derived.KernelRfl
namespace Go.Proofs.Ytkljkogcahmaaaa
/- THE CELL 'sum', in the pinned program and in every row, IS THE sha256 OF THE DUMP (.gsa) THAT YtkljkogcahmaaaaProg.lean LOADS. Nothing in Lean hashes anything: it is a label: what it is worth is what the hold of that sum in a sandbox is worth. -/
noncomputable def Try.pinned : Pinned := { name := "ytkljkogcahmaaaa", sum := "270ca315c244b9855cb58b45c0d2a0605180f4f9900812750d231c522729ca2c", checked := Try.checked }
namespace Rows
def none {H : Type} : Left H := { results := [], args := [] }

/-- 'lotdrawerkeep.FenJust': WHATEVER THE INPUT: true; the input reads as it did. -/
def fenJustSpec : ChangeSpec := { name := "fenJust", fn := fun _ => fun
  | [d] => { results := [.lit (.bool true)], args := [d] }
  | _ => none }
def fenJustRow : OpenClaim := { program := "ytkljkogcahmaaaa", sum := "270ca315c244b9855cb58b45c0d2a0605180f4f9900812750d231c522729ca2c", func := "lotdrawer/lotdrawerkeep.FenJust", spec := "fenJust", plainKeys := false, apart := false }
def FenJustSaid : Prop := fenJustRow.holds Try.pinned (OpenSpec.ofChange fenJustSpec)

/-- ITS FALSE NEIGHBOUR: 'it returns false'. Refute it at one input. -/
def fenJustWrong : ChangeSpec := { name := "fenJust", fn := fun _ => fun
  | [d] => { results := [.lit (.bool false)], args := [d] }
  | _ => none }
def FenJustWrongFalsely : Prop := fenJustRow.holds Try.pinned (OpenSpec.ofChange fenJustWrong)

/-- 'lotdrawerkeep.FenOnce': WHATEVER THE INPUT: true; the input reads as it did. -/
def fenOnceSpec : ChangeSpec := { name := "fenOnce", fn := fun _ => fun
  | [d1, d2] => { results := [.lit (.bool true)], args := [d1, d2] }
  | _ => none }
def fenOnceRow : OpenClaim := { program := "ytkljkogcahmaaaa", sum := "270ca315c244b9855cb58b45c0d2a0605180f4f9900812750d231c522729ca2c", func := "lotdrawer/lotdrawerkeep.FenOnce", spec := "fenOnce", plainKeys := false, apart := false }
def FenOnceSaid : Prop := fenOnceRow.holds Try.pinned (OpenSpec.ofChange fenOnceSpec)

/-- ITS FALSE NEIGHBOUR: 'it returns false'. Refute it at one input. -/
def fenOnceWrong : ChangeSpec := { name := "fenOnce", fn := fun _ => fun
  | [d1, d2] => { results := [.lit (.bool false)], args := [d1, d2] }
  | _ => none }
def FenOnceWrongFalsely : Prop := fenOnceRow.holds Try.pinned (OpenSpec.ofChange fenOnceWrong)

/-- 'lotdrawerkeep.FenTwo': WHATEVER THE INPUT: true; the input reads as it did. -/
def fenTwoSpec : ChangeSpec := { name := "fenTwo", fn := fun _ => fun
  | [d] => { results := [.lit (.bool true)], args := [d] }
  | _ => none }
def fenTwoRow : OpenClaim := { program := "ytkljkogcahmaaaa", sum := "270ca315c244b9855cb58b45c0d2a0605180f4f9900812750d231c522729ca2c", func := "lotdrawer/lotdrawerkeep.FenTwo", spec := "fenTwo", plainKeys := false, apart := false }
def FenTwoSaid : Prop := fenTwoRow.holds Try.pinned (OpenSpec.ofChange fenTwoSpec)

/-- ITS FALSE NEIGHBOUR: 'it returns false'. Refute it at one input. -/
def fenTwoWrong : ChangeSpec := { name := "fenTwo", fn := fun _ => fun
  | [d] => { results := [.lit (.bool false)], args := [d] }
  | _ => none }
def FenTwoWrongFalsely : Prop := fenTwoRow.holds Try.pinned (OpenSpec.ofChange fenTwoWrong)

/-- 'lotdrawerkeep.FenMore': WHATEVER THE INPUT: true; the input reads as it did. -/
def fenMoreSpec : ChangeSpec := { name := "fenMore", fn := fun _ => fun
  | [d1, d2, d3] => { results := [.lit (.bool true)], args := [d1, d2, d3] }
  | _ => none }
def fenMoreRow : OpenClaim := { program := "ytkljkogcahmaaaa", sum := "270ca315c244b9855cb58b45c0d2a0605180f4f9900812750d231c522729ca2c", func := "lotdrawer/lotdrawerkeep.FenMore", spec := "fenMore", plainKeys := false, apart := false }
def FenMoreSaid : Prop := fenMoreRow.holds Try.pinned (OpenSpec.ofChange fenMoreSpec)

/-- ITS FALSE NEIGHBOUR: 'it returns false'. Refute it at one input. -/
def fenMoreWrong : ChangeSpec := { name := "fenMore", fn := fun _ => fun
  | [d1, d2, d3] => { results := [.lit (.bool false)], args := [d1, d2, d3] }
  | _ => none }
def FenMoreWrongFalsely : Prop := fenMoreRow.holds Try.pinned (OpenSpec.ofChange fenMoreWrong)

/- THE SECOND FORM. 'bulk': how many values and letters a reading holds, each counted each time it is reached (what is shared counts as often as it is met; a slice's spare places count too). A statement '..UptoSaid' is the law's where the arguments, and the package variables that the reading takes, are together of bulk at most 1048576: NARROWER than '..Said'. Prove '..Said' where nothing that the law and all that it calls make is longer than what came in: it says more and counts as full. Else prove '..UptoSaid'. A law counts once. -/
mutual
def uptoBulk {H : Type} : DataW H → Nat
  | .lit (.string bytes) => bytes.length + 1
  | .lit _ => 1
  | .nil => 1
  | .ptr d => uptoBulk d + 1
  | .slice elems spare => uptoBulkAll elems + uptoBulkAll spare + 1
  | .agg parts => uptoBulkAll parts + 1
  | .iface _ d => uptoBulk d + 1
  | .map entries => uptoBulkEntries entries + 1
  | .held _ => 1
def uptoBulkAll {H : Type} : List (DataW H) → Nat
  | [] => 0
  | d :: r => uptoBulk d + uptoBulkAll r
def uptoBulkEntries {H : Type} : List (Lit × DataW H) → Nat
  | [] => 0
  | x :: r => uptoBulkEntry x + uptoBulkEntries r
def uptoBulkEntry {H : Type} : Lit × DataW H → Nat
  | (.string bytes, d) => bytes.length + uptoBulk d + 1
  | (_, d) => uptoBulk d + 1
 end
def uptoSmall : (H : Type) → List (DataW H) → Bool := fun _ ds => decide (uptoBulkAll ds ≤ 1048576)
def OpenSpec.upto (s : _root_.Go.ChangeSpec) : _root_.Go.OpenSpec := { _root_.Go.OpenSpec.ofChange s with cond := some uptoSmall }

/-- 'lotdrawerkeep.FenJust', WHERE WHAT IT READS IS OF BULK AT MOST 1048576: true; the input reads as it did. -/
def fenJustUptoRow : OpenClaim := { program := "ytkljkogcahmaaaa", sum := "270ca315c244b9855cb58b45c0d2a0605180f4f9900812750d231c522729ca2c", func := "lotdrawer/lotdrawerkeep.FenJust", spec := "fenJust", plainKeys := false, apart := false, narrowed := true }
def FenJustUptoSaid : Prop := fenJustUptoRow.holds Try.pinned (OpenSpec.upto fenJustSpec)

/-- 'lotdrawerkeep.FenOnce', WHERE WHAT IT READS IS OF BULK AT MOST 1048576: true; the input reads as it did. -/
def fenOnceUptoRow : OpenClaim := { program := "ytkljkogcahmaaaa", sum := "270ca315c244b9855cb58b45c0d2a0605180f4f9900812750d231c522729ca2c", func := "lotdrawer/lotdrawerkeep.FenOnce", spec := "fenOnce", plainKeys := false, apart := false, narrowed := true }
def FenOnceUptoSaid : Prop := fenOnceUptoRow.holds Try.pinned (OpenSpec.upto fenOnceSpec)

/-- 'lotdrawerkeep.FenTwo', WHERE WHAT IT READS IS OF BULK AT MOST 1048576: true; the input reads as it did. -/
def fenTwoUptoRow : OpenClaim := { program := "ytkljkogcahmaaaa", sum := "270ca315c244b9855cb58b45c0d2a0605180f4f9900812750d231c522729ca2c", func := "lotdrawer/lotdrawerkeep.FenTwo", spec := "fenTwo", plainKeys := false, apart := false, narrowed := true }
def FenTwoUptoSaid : Prop := fenTwoUptoRow.holds Try.pinned (OpenSpec.upto fenTwoSpec)

/-- 'lotdrawerkeep.FenMore', WHERE WHAT IT READS IS OF BULK AT MOST 1048576: true; the input reads as it did. -/
def fenMoreUptoRow : OpenClaim := { program := "ytkljkogcahmaaaa", sum := "270ca315c244b9855cb58b45c0d2a0605180f4f9900812750d231c522729ca2c", func := "lotdrawer/lotdrawerkeep.FenMore", spec := "fenMore", plainKeys := false, apart := false, narrowed := true }
def FenMoreUptoSaid : Prop := fenMoreUptoRow.holds Try.pinned (OpenSpec.upto fenMoreSpec)

end Rows
end Go.Proofs.Ytkljkogcahmaaaa
