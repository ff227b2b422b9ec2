/- Walks of urns.Spread and alive22. No condition. -/
import Derived.Test.YtgikbmfajdjaeaaSums
import Derived.Test.YtgikbmfajdjaeaaMore
import Derived.Test.YtgikbmfajdjaeaaBell
import Derived.Test.YtgikbmfajdjaeaaWrongly
set_option linter.unusedSimpArgs false
set_option linter.unusedVariables false
namespace Go.Proofs.Ytgikbmfajdjaeaa
open Go.RowKit
def spread (n k : Nat) : Nat := if k = 0 then (if n = 0 then 1 else 0) else ofN (n + k - 1) n
theorem Spread_any (n k : Nat) (hnk : n + k ≤ 60) (w : World) : Calls Try.prog 16 #[.int .i64 n, .int .i64 k] w fun e w' => e = .returned (.tuple #[.int .i64 (spread n k : Nat), .int .i64 0]) ∧ Below w.heap.size w w' := by
  have h3 : ¬ ((60 : Int) < (n : Int) + (k : Int)) := by omega
  by_cases hk : k = 0
  · subst hk
    by_cases hn : n = 0
    · subst hn
      go_enter Try.func16, Try.ntmps16
      go_wp2_with fail
      go_ret2
      exact ⟨rfl, Below.refl _ _⟩
    · have hn0 : ((n : Int) == 0) = false := by simp; omega
      have HS : Hid (spread n 0 = 0) := by show _ = _; rw [spread, if_pos rfl, if_neg hn]
      go_enter Try.func16, Try.ntmps16
      go_wp2_with fail
      go_ret2
      exact ⟨by rw [HS.out]; rfl, Below.refl _ _⟩
  · have hk0 : ((k : Int) == 0) = false := by simp; omega
    have HS : Hid (spread n k = ofN (n + k - 1) n) := by show _ = _; rw [spread, if_neg hk]
    have HO := Lib.hid (fun w => Of_any (n + k - 1) n (by omega) w)
    have e1 : ((n + k - 1 : Nat) : Int) = (n : Int) + (k : Int) - 1 := by omega
    rw [e1] at HO
    clear e1
    generalize ofN (n + k - 1) n = x at *
    go_enter Try.func16, Try.ntmps16
    go_wp2_with fail
    refine (HO.out _).mono ?_
    rintro e w1 ⟨rfl, hb1⟩
    go_wp2_with fail
    go_ret2
    exact ⟨by rw [HS.out]; rfl, hb1⟩
theorem c1 (w : World) : Calls Try.prog 14 #[.int .i64 4, .int .i64 2] w fun e w' => e = .returned (.tuple #[.int .i64 7, .int .i64 0]) ∧ Below w.heap.size w w' := by
  have h := Parts_any 4 2 (by omega) (by omega) w
  rwa [show parts 4 2 = 7 by decide +kernel] at h
theorem c2 (w : World) : Calls Try.prog 9 #[.int .i64 4, .int .i64 2] w fun e w' => e = .returned (.tuple #[.int .i64 14, .int .i64 0]) ∧ Below w.heap.size w w' := by
  have h := Onto_any 4 2 (by omega) (by omega) w
  rwa [show onto 4 2 = 14 by decide +kernel] at h
theorem c3 (w : World) : Calls Try.prog 13 #[.int .i64 4] w fun e w' => e = .returned (.tuple #[.int .i64 15, .int .i64 0]) ∧ Below w.heap.size w w' := by
  have h := Bell_any 4 (by omega) w
  rwa [show bell 4 = 15 by decide +kernel] at h
theorem c4 (w : World) : Calls Try.prog 11 #[.int .i64 4] w fun e w' => e = .returned (.tuple #[.int .i64 9, .int .i64 0]) ∧ Below w.heap.size w w' := by
  have h := Wrongly_any 4 (by omega) w
  rwa [show (wr2 4).1 = 9 by decide +kernel] at h
theorem c5 (w : World) : Calls Try.prog 15 #[.int .i64 7, .int .i64 3] w fun e w' => e = .returned (.tuple #[.int .i64 4, .int .i64 0]) ∧ Below w.heap.size w w' := by
  have h := Sums_any 7 3 (by omega) (by omega) w
  rwa [show sums 7 3 = 4 by decide +kernel] at h
theorem c6 (w : World) : Calls Try.prog 16 #[.int .i64 3, .int .i64 3] w fun e w' => e = .returned (.tuple #[.int .i64 10, .int .i64 0]) ∧ Below w.heap.size w w' := by
  have h := Spread_any 3 3 (by omega) w
  rwa [show spread 3 3 = 10 by decide +kernel] at h
theorem alive_any (w : World) : Calls Try.prog 8 #[] w fun e w' => e = .returned (.bool true) ∧ Below w.heap.size w w' := by
  go_enter Try.func8, Try.ntmps8
  go_wp2_with fail
  refine (c1 _).mono ?_
  rintro e w1 ⟨rfl, h1⟩
  go_wp2_with fail
  refine (c2 _).mono ?_
  rintro e w2 ⟨rfl, h2⟩
  go_wp2_with fail
  refine (c3 _).mono ?_
  rintro e w3 ⟨rfl, h3⟩
  go_wp2_with fail
  refine (c4 _).mono ?_
  rintro e w4 ⟨rfl, h4⟩
  go_wp2_with fail
  refine (c5 _).mono ?_
  rintro e w5 ⟨rfl, h5⟩
  go_wp2_with fail
  refine (c6 _).mono ?_
  rintro e w6 ⟨rfl, h6⟩
  go_wp2_with fail
  go_ret
  have s1 := h1.size
  have s2 := h2.size
  have s3 := h3.size
  have s4 := h4.size
  have s5 := h5.size
  exact ⟨rfl, ((((h1.trans (h2.mono s1)).trans (h3.mono (by omega))).trans (h4.mono (by omega))).trans (h5.mono (by omega))).trans (h6.mono (by omega))⟩
end Go.Proofs.Ytgikbmfajdjaeaa
