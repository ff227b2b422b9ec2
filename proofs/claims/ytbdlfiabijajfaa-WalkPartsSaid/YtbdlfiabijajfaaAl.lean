/- Walk of alive17. No condition. -/
import Derived.Test.YtbdlfiabijajfaaAlive
set_option linter.unusedSimpArgs false
set_option linter.unusedVariables false
namespace Go.Proofs.Ytbdlfiabijajfaa
open Go.RowKit
theorem c1 (w : World) : Calls Try.prog 9 #[.int .i64 4, .int .i64 2] w fun e w' => e = .returned (.tuple #[.int .i64 4, .int .i64 0]) ∧ Below w.heap.size w w' := by
  have h := Free_any 4 (by omega) 2 (by omega) (by omega) w
  rwa [show fr 4 2 = 4 by decide +kernel] at h
theorem c2 (w : World) : Calls Try.prog 10 #[.int .i64 4, .int .i64 1, .int .i64 1] w fun e w' => e = .returned (.tuple #[.int .i64 2, .int .i64 0]) ∧ Below w.heap.size w w' := by
  have h := Above_any 4 (by omega) 1 1 (by omega) (by omega) (by omega) (by omega) w
  rwa [show ab 4 1 1 = 2 by decide +kernel] at h
theorem c3 (w : World) : Calls Try.prog 13 #[.int .i64 4, .int .i64 1, .int .i64 1, .int .i64 3] w fun e w' => e = .returned (.tuple #[.int .i64 1, .int .i64 0]) ∧ Below w.heap.size w w' := by
  have h := Between_any 4 (by omega) 1 1 3 (by omega) (by omega) (by omega) (by omega) (by omega) (by omega) w
  rwa [show bt 4 1 1 3 = 1 by decide +kernel] at h
theorem c4 (w : World) : Calls Try.prog 12 #[.int .i64 4] w fun e w' => e = .returned (.tuple #[.int .i64 2, .int .i64 0]) ∧ Below w.heap.size w w' := by
  have h := First_any 4 (by omega) w
  rwa [show fi 4 = 2 by decide +kernel] at h
theorem c5 (w : World) : Calls Try.prog 11 #[.int .i64 3] w fun e w' => e = .returned (.tuple #[.int .i64 5, .int .i64 0]) ∧ Below w.heap.size w w' := by
  have h := Catalan_any 3 (by omega) w
  rwa [show ab (2 * 3) 1 1 = 5 by decide +kernel] at h
theorem alive_any (w : World) : Calls Try.prog 8 #[] w fun e w' => e = .returned (.bool true) ∧ Below w.heap.size w w' := by
  go_enter Try.func8, Try.ntmps8
  go_wp2_with fail
  refine (c1 _).mono ?_
  rintro e w1 ⟨rfl, h1⟩
  go_wp2_with fail
  refine (c2 _).mono ?_
  rintro e w2 ⟨rfl, h2⟩
  go_wp2_with fail
  refine (c3 _).mono ?_
  rintro e w3 ⟨rfl, h3⟩
  go_wp2_with fail
  refine (c4 _).mono ?_
  rintro e w4 ⟨rfl, h4⟩
  go_wp2_with fail
  refine (c5 _).mono ?_
  rintro e w5 ⟨rfl, h5⟩
  go_wp2_with fail
  go_ret
  have s1 := h1.size
  have s2 := h2.size
  have s3 := h3.size
  have s4 := h4.size
  exact ⟨rfl, (((h1.trans (h2.mono s1)).trans (h3.mono (by omega))).trans (h4.mono (by omega))).trans (h5.mono (by omega))⟩
end Go.Proofs.Ytbdlfiabijajfaa
