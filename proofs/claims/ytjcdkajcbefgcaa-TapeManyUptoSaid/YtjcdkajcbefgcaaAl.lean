/- Walk of alive2. No condition. -/
import Derived.Test.YtjcdkajcbefgcaaMany
import Derived.Test.YtjcdkajcbefgcaaFair
import Derived.Test.YtjcdkajcbefgcaaEqual
set_option linter.unusedSimpArgs false
set_option linter.unusedVariables false
namespace Go.Proofs.Ytjcdkajcbefgcaa
open Go.RowKit
theorem bits_tp (x n : Nat) (hn : n ≤ 1048576) (hx : x ≤ 9223372036854775807) (w : World) : Calls Try.prog 9 #[.int .i64 x, .int .i64 n] w fun e w' => Below w.heap.size w w' ∧ ∃ v, e = .returned v ∧ RdB w' v (tp n x) := bits_any x n hn hx w
theorem c1 (w : World) : Calls Try.prog 9 #[.int .i64 53, .int .i64 6] w fun e w' => Below w.heap.size w w' ∧ ∃ v, e = .returned v ∧ RdB w' v (tp 6 53) := bits_tp 53 6 (by omega) (by omega) w
theorem c2 (w : World) (v : Value) (h : RdB w v (tp 6 53)) : Calls Try.prog 8 #[v, .int .i64 6] w fun e w' => e = .returned (.tuple #[.int .i64 5, .int .i64 6, .int .i64 0]) ∧ w = w' := by
  have h1 := below_any v _ 6 w h
  rw [show belZ 6 (tp 6 53) = some (5, 6) by decide +kernel] at h1
  exact h1
theorem c3 (w : World) : Calls Try.prog 9 #[.int .i64 14, .int .i64 4] w fun e w' => Below w.heap.size w w' ∧ ∃ v, e = .returned v ∧ RdB w' v (tp 4 14) := bits_tp 14 4 (by omega) (by omega) w
theorem c4 (w : World) (v : Value) (h : RdB w v (tp 4 14)) : Calls Try.prog 10 #[v] w fun e w' => e = .returned (.tuple #[.bool true, .int .i64 4, .int .i64 0]) ∧ Below w.heap.size w w' := by
  have h1 := fair_any v _ w h
  rw [show fairF (tp 4 14) = some (true, 4) by decide +kernel] at h1
  exact h1
theorem c5 (w : World) : Calls Try.prog 9 #[.int .i64 9, .int .i64 4] w fun e w' => Below w.heap.size w w' ∧ ∃ v, e = .returned v ∧ RdB w' v (tp 4 9) := bits_tp 9 4 (by omega) (by omega) w
theorem c6 (w : World) (v v2 : Value) (h : RdB w v (tp 4 9)) (h2 : Rd w v2 [2, 1, 4]) : Calls Try.prog 12 #[v, v2] w fun e w' => Below w.heap.size w w' ∧ ∃ v, Rd w' v [1, 0, 0] ∧ e = .returned (.tuple #[v, .int .i64 3, .int .i64 0]) := by
  have h1 := many_any v v2 _ _ w h h2 (by decide)
  rw [show many [2, 1, 4] (tp 4 9) = some ([1, 0, 0], 3) by decide +kernel] at h1
  exact h1.mono fun e w' ⟨hb, v, hv, he⟩ => ⟨hb, v, hv.1, he⟩
set_option maxHeartbeats 1600000 in
theorem alive_any (w : World) : Calls Try.prog 7 #[] w fun e w' => e = .returned (.bool true) ∧ Below w.heap.size w w' := by
  go_enter Try.func7, Try.ntmps7
  go_wp2_with fail
  refine (c1 _).mono ?_
  rintro e w1 ⟨h1, v1, rfl, r1⟩
  go_wp2_with fail
  refine (c2 _ _ r1).mono ?_
  rintro e w2 ⟨rfl, rfl⟩
  clear r1
  go_wp2_with fail
  refine (c3 _).mono ?_
  rintro e w3 ⟨h3, v3, rfl, r3⟩
  have H3 := h1.trans (h3.mono h1.size)
  clear h3 h1
  go_wp2_with fail
  refine (c4 _ _ r3).mono ?_
  rintro e w4 ⟨rfl, h4⟩
  have H4 := H3.trans (h4.mono H3.size)
  clear h4 H3 r3
  go_wp2_with fail
  refine (c5 _).mono ?_
  rintro e w5 ⟨h5, v5, rfl, r5⟩
  have H5 := H4.trans (h5.mono H4.size)
  clear h5 H4
  go_wp2_with fail
  refine (c6 _ _ _ (r5.alloc _) (Rd.built w5 [2, 1, 4] _ _ rfl 3 rfl (by decide))).mono ?_
  rintro e w6 ⟨h6, v6, r6, rfl⟩
  have b6 := (Below.refl w5.heap.size w5).alloc (Nat.le_refl _) _ |>.trans (h6.mono (by simp))
  have H6 := Lib.hid (H5.trans (b6.mono H5.size))
  have R6 := Lib.hid r6
  clear h6 b6 H5 r5 r6
  go_wp2_with fail
  refine (equal_any _ _ [1, 0, 0] [1, 0, 0] _ (R6.out.alloc _) (Rd.built w6 [1, 0, 0] _ _ rfl 3 rfl (by decide))).mono ?_
  rintro e w7 ⟨rfl, h7⟩
  have b7 := (Below.refl w6.heap.size w6).alloc (Nat.le_refl _) _ |>.trans (h7.mono (by simp))
  have H7 := Lib.hid (H6.out.trans (b7.mono H6.out.size))
  clear h7 b7 R6 H6
  go_wp2_with fail
  go_ret
  exact ⟨rfl, H7.out⟩
end Go.Proofs.Ytjcdkajcbefgcaa
