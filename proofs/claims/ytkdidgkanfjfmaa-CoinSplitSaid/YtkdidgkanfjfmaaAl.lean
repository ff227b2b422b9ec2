/- Walk of alive3. No condition. -/
import Derived.Test.YtkdidgkanfjfmaaOf
set_option linter.unusedSimpArgs false
set_option linter.unusedVariables false
namespace Go.Proofs.Ytkdidgkanfjfmaa
open Go.RowKit
theorem bits_tp (x n : Nat) (hn : n ≤ 1048576) (hx : x ≤ 9223372036854775807) (w : World) : Calls Try.prog 11 #[.int .i64 x, .int .i64 n] w fun e w' => Below w.heap.size w w' ∧ ∃ v, e = .returned v ∧ RdB w' v (tp n x) := bits_any x n hn hx w
theorem b1 (w : World) : Calls Try.prog 11 #[.int .i64 2, .int .i64 3] w fun e w' => Below w.heap.size w w' ∧ ∃ v, e = .returned v ∧ RdB w' v (tp 3 2) := bits_tp 2 3 (by omega) (by omega) w
theorem b2 (w : World) : Calls Try.prog 11 #[.int .i64 7, .int .i64 4] w fun e w' => Below w.heap.size w w' ∧ ∃ v, e = .returned v ∧ RdB w' v (tp 4 7) := bits_tp 7 4 (by omega) (by omega) w
theorem b3 (w : World) : Calls Try.prog 11 #[.int .i64 6, .int .i64 3] w fun e w' => Below w.heap.size w w' ∧ ∃ v, e = .returned v ∧ RdB w' v (tp 3 6) := bits_tp 6 3 (by omega) (by omega) w
theorem b4 (w : World) : Calls Try.prog 11 #[.int .i64 2, .int .i64 2] w fun e w' => Below w.heap.size w w' ∧ ∃ v, e = .returned v ∧ RdB w' v (tp 2 2) := bits_tp 2 2 (by omega) (by omega) w
theorem c1 (w : World) (v : Value) (h : RdB w v (tp 3 2)) : Calls Try.prog 10 #[v, .agg #[.int .i64 1, .int .i64 3]] w fun e w' => e = .returned (.tuple #[.bool false, .int .i64 0, .int .i64 7]) ∧ Below w.heap.size w w' := by
  have h1 := toss_ok v _ 1 3 (by omega) (by omega) (by omega) w h
  rw [show tossN 1 3 (tp 3 2) = none by decide +kernel] at h1
  exact h1
theorem c2 (w : World) (v : Value) (h : RdB w v (tp 4 7)) : Calls Try.prog 10 #[v, .agg #[.int .i64 1, .int .i64 3]] w fun e w' => e = .returned (.tuple #[.bool false, .int .i64 3, .int .i64 0]) ∧ Below w.heap.size w w' := by
  have h1 := toss_ok v _ 1 3 (by omega) (by omega) (by omega) w h
  rw [show tossN 1 3 (tp 4 7) = some (false, 3) by decide +kernel] at h1
  exact h1
theorem c3 (w : World) (v : Value) (h : RdB w v (tp 3 6)) : Calls Try.prog 12 #[v, .agg #[.int .i64 1, .int .i64 2]] w fun e w' => e = .returned (.tuple #[.int .i64 3, .int .i64 3, .int .i64 0]) ∧ Below w.heap.size w w' := by
  have h1 := turn_ok v _ (by rw [tp_len]; omega) 1 2 (by omega) (by omega) (by omega) w h
  rw [show turnF 1 2 ((tp 3 6).length + 1) (tp 3 6) = some (3, 3) by decide +kernel] at h1
  exact h1
theorem c4 (w : World) (v v2 : Value) (h : RdB w v (tp 2 2)) (h2 : Rd w v2 [1, 1]) : Calls Try.prog 13 #[v, v2] w fun e w' => e = .returned (.tuple #[.int .i64 1, .int .i64 1, .int .i64 0]) ∧ Below w.heap.size w w' := by
  have h1 := of_ok v v2 _ [1, 1] (by decide) (by decide) w h h2
  rw [show ofF 0 (sumW [1, 1]) [1, 1] (tp 2 2) = some (1, 1) by decide +kernel] at h1
  exact h1
set_option maxHeartbeats 1600000 in
theorem alive_any (w : World) : Calls Try.prog 8 #[] w fun e w' => e = .returned (.bool true) ∧ Below w.heap.size w w' := by
  go_enter Try.func8, Try.ntmps8
  go_wp2_with fail
  refine (b1 _).mono ?_
  rintro e w1 ⟨h1, v1, rfl, r1⟩
  go_wp2_with fail
  refine (c1 _ _ r1).mono ?_
  rintro e w2 ⟨rfl, h2⟩
  have H2 := h1.trans (h2.mono h1.size)
  clear r1 h1 h2
  go_wp2_with fail
  refine (b2 _).mono ?_
  rintro e w3 ⟨h3, v3, rfl, r3⟩
  have H3 := H2.trans (h3.mono H2.size)
  clear h3 H2
  go_wp2_with fail
  refine (c2 _ _ r3).mono ?_
  rintro e w4 ⟨rfl, h4⟩
  have H4 := H3.trans (h4.mono H3.size)
  clear h4 H3 r3
  go_wp2_with fail
  refine (b3 _).mono ?_
  rintro e w5 ⟨h5, v5, rfl, r5⟩
  have H5 := H4.trans (h5.mono H4.size)
  clear h5 H4
  go_wp2_with fail
  refine (c3 _ _ r5).mono ?_
  rintro e w6 ⟨rfl, h6⟩
  have H6 := H5.trans (h6.mono H5.size)
  clear h6 H5 r5
  go_wp2_with fail
  refine (b4 _).mono ?_
  rintro e w7 ⟨h7, v7, rfl, r7⟩
  have H7 := Lib.hid (H6.trans (h7.mono H6.size))
  clear h7 H6
  go_wp2_with fail
  refine (c4 _ _ _ (r7.alloc _) (Rd.built w7 [1, 1] _ _ rfl 2 rfl (by decide))).mono ?_
  rintro e w8 ⟨rfl, h8⟩
  have b8 := (Below.refl w7.heap.size w7).alloc (Nat.le_refl _) _ |>.trans (h8.mono (by simp))
  have H8 := Lib.hid (H7.out.trans (b8.mono H7.out.size))
  clear h8 b8 r7 H7
  go_wp2_with fail
  go_ret
  exact ⟨rfl, H8.out⟩
end Go.Proofs.Ytkdidgkanfjfmaa
