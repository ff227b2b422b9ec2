/- The walk of GrayMix. Condition: the table of math/bits is as its initialiser lays it. -/
import Derived.Test.YtoinpfcmolkhiaaDoorAl
set_option linter.unusedSimpArgs false
set_option linter.unusedVariables false
namespace Go.Proofs.YtoinpfcmolkhiaaDoor.grayMix
open Go.RowKit Go.Proofs.YtoinpfcmolkhiaaDoor
attribute [local go_sem] xor_U
set_option maxHeartbeats 800000 in
theorem walk (a0 a1 : Int) (w : World) (hT : TabAt w) (w0 : (Lit.int .u64 a0).wf = true) (w1 : (Lit.int .u64 a1).wf = true) :
    Calls Tryd.prog 3 #[.int .u64 a0, .int .u64 a1] w fun e w' => e = .returned (.bool true) ∧ Below w.heap.size w w' := by
  obtain ⟨x, rfl⟩ := U_of w0
  obtain ⟨y, rfl⟩ := U_of w1
  have h1 : (U (code (x ^^^ y)) == U (code x ^^^ code y)) = true := by rw [code_xor]; simp
  have h2 : (U (place (x ^^^ y)) == U (place x ^^^ place y)) = true := by rw [place_xor]; simp
  have H1 := Lib.hid h1
  have H2 := Lib.hid h2
  have HT := Lib.hid hT
  clear w0 w1 h1 h2 hT
  go_enter Tryd.func3, Tryd.ntmps3
  go_wp2_with fail
  refine (alive_any w HT.out).mono ?_
  rintro e w1 ⟨rfl, hb⟩
  have HB := Lib.hid hb
  clear hb
  go_wp2_with fail
  refine (code_any _ _).mono ?_
  rintro e w' ⟨rfl, rfl⟩
  go_wp2_with fail
  refine (code_any _ _).mono ?_
  rintro e w' ⟨rfl, rfl⟩
  go_wp2_with fail
  refine (code_any _ _).mono ?_
  rintro e w' ⟨rfl, rfl⟩
  have h1 := H1.out
  go_wp2_with fail
  refine (place_any _ _).mono ?_
  rintro e w' ⟨rfl, rfl⟩
  go_wp2_with fail
  refine (place_any _ _).mono ?_
  rintro e w' ⟨rfl, rfl⟩
  go_wp2_with fail
  refine (place_any _ _).mono ?_
  rintro e w' ⟨rfl, rfl⟩
  have h2 := H2.out
  go_wp2_with fail
  go_ret
  exact ⟨by simp [h2], HB.out⟩
end Go.Proofs.YtoinpfcmolkhiaaDoor.grayMix
