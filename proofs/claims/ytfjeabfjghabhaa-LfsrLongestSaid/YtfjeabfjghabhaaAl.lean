/- The test ahead of each law answers true. No condition. -/
import Derived.Test.YtfjeabfjghabhaaRow
import Derived.Test.YtfjeabfjghabhaaEqualB
set_option linter.unusedSimpArgs false
set_option linter.unusedVariables false
namespace Go.Proofs.Ytfjeabfjghabhaa
open Go.RowKit
theorem per_one {n t s p p' : Nat} (h1 : 1 ≤ p) (h2 : it n t p s = s) (h3 : ∀ j, 0 < j → j < p → it n t j s ≠ s) (h1' : 1 ≤ p') (h2' : it n t p' s = s) (h3' : ∀ j, 0 < j → j < p' → it n t j s ≠ s) : p = p' := by
  rcases Nat.lt_trichotomy p p' with h | h | h
  · exact absurd h2 (h3' p h1 h)
  · exact h
  · exact absurd h2' (h3 p' h1' h)
theorem ok4 : OkT (4 : Nat) 12 := by decide
theorem ok3 : OkT (3 : Nat) 6 := by decide
theorem al_step (w : World) : Calls Try.prog 11 #[.int .i64 4, .int .u32 12, .int .u32 8] w fun e w' => e = .returned (.tuple #[.int .u32 1, .int .i64 0]) ∧ ∃ q, w' = w.drewN q := step_ok 4 12 8 ok4 (by decide) w
theorem no4 : ∀ j, j < 15 → 0 < j → it 4 12 j 1 ≠ 1 := by decide
theorem al_period (w : World) : Calls Try.prog 9 #[.int .i64 4, .int .u32 12, .int .u32 1] w fun e w' => (∃ q, w' = w.drewN q) ∧ e = .returned (.tuple #[.int .i64 15, .int .i64 0]) := by
  refine Calls.mono (period_ok 4 12 1 ok4 (by decide) w) ?_
  rintro e w' ⟨hq, p, rfl, h1, -, h2, h3⟩
  refine ⟨hq, ?_⟩
  have : p = 15 := per_one h1 h2 h3 (by decide) (by decide) (fun j a b => no4 j b a)
  subst this; rfl
theorem al_row (w : World) : Calls Try.prog 10 #[.int .i64 3, .int .u32 6, .int .u32 1, .int .i64 7] w fun e w' => Below w.heap.size w w' ∧ ∃ v, e = .returned (.tuple #[v, .int .i64 0]) ∧ RdB w' v [false, false, true, false, true, true, true] := by
  refine Calls.mono (row_ok 3 6 1 7 ok3 (by decide) (by decide) w) ?_
  rintro e w' ⟨hb, v, rfl, hr⟩
  refine ⟨hb, v, rfl, ?_⟩
  rw [show tabB 7 (topb 3 6 1) = [false, false, true, false, true, true, true] by decide] at hr
  exact hr
theorem al_jump (w : World) : Calls Try.prog 8 #[.int .i64 4, .int .u32 12, .int .u32 1, .int .i64 15] w fun e w' => e = .returned (.tuple #[.int .u32 1, .int .i64 0]) ∧ Below w.heap.size w w' := jump_ok 4 12 1 15 ok4 (by decide) (by decide) w
set_option maxHeartbeats 800000 in
set_option maxRecDepth 20000 in
theorem alive_any (w : World) : Calls Try.prog 7 #[] w fun e w' => e = .returned (.bool true) ∧ Below w.heap.size w w' := by
  go_enter Try.func7, Try.ntmps7
  go_wp2_with fail
  refine (al_step _).mono ?_
  rintro e w1 ⟨rfl, q1, rfl⟩
  go_wp2_with fail
  refine (al_period _).mono ?_
  rintro e w2 ⟨⟨q2, rfl⟩, rfl⟩
  go_wp2_with fail
  refine (al_row _).mono ?_
  rintro e w3 ⟨h3, v, rfl, hr⟩
  have H3 := Lib.hid (((Below.refl w.heap.size w).drewN (q1 + q2)).trans h3)
  have HR := Lib.hid hr
  clear h3 hr
  obtain ⟨a, cap, rfl, hlc, hcm, -⟩ := HR.out.open
  go_wp2_with fail
  refine (al_jump _).mono ?_
  rintro e w4 ⟨rfl, h4⟩
  have H4 := Lib.hid (H3.out.trans (h4.mono H3.out.size))
  have HR4 := Lib.hid (HR.out.below h4 (Nat.le_refl _))
  clear h4
  go_wp2_with fail
  refine (equalB_any _ _ _ [false, false, true, false, true, true, true] _ (HR4.out.alloc _) (RdB.built w4 [false, false, true, false, true, true, true] _ _ rfl 7 rfl (by decide))).mono ?_
  rintro e w5 ⟨rfl, h5⟩
  have b5 := (Below.refl w4.heap.size w4).alloc (Nat.le_refl _) _ |>.trans (h5.mono (by simp))
  have H5 := Lib.hid (H4.out.trans (b5.mono H4.out.size))
  rw [decide_eq_true (rfl : [false, false, true, false, true, true, true] = [false, false, true, false, true, true, true])]
  clear h5 b5
  go_wp2_with fail
  go_ret
  exact ⟨by simp, H5.out⟩
end Go.Proofs.Ytfjeabfjghabhaa
