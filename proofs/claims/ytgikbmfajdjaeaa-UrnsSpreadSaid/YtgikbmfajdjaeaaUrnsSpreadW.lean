/- The walk of UrnsSpread. No condition. -/
import Derived.Test.YtgikbmfajdjaeaaLaws
set_option linter.unusedSimpArgs false
set_option linter.unusedVariables false
namespace Go.Proofs.Ytgikbmfajdjaeaa.urnsSpread
open Go.RowKit Go.Proofs.Ytgikbmfajdjaeaa
theorem walk_out (n k : Int) (hx : n < 1 ∨ k < 1 ∨ 25 < n ∨ 25 < k) (w : World) : Calls Try.prog 7 #[.int .i64 n, .int .i64 k] w fun e w' => e = .returned (.bool true) ∧ Below w.heap.size w w' := by
  rcases hx with h | h | h | h
  all_goals
    go_enter Try.func7, Try.ntmps7
    go_wp2_with fail
    refine (alive_any _).mono ?_
    rintro e w1 ⟨rfl, hb1⟩
    go_wp2_with fail
    all_goals
      go_ret
      exact ⟨rfl, hb1⟩
theorem walk_in (n k : Nat) (h1 : 1 ≤ n) (h2 : 1 ≤ k) (h3 : n ≤ 25) (h4 : k ≤ 25) (w : World) : Calls Try.prog 7 #[.int .i64 n, .int .i64 k] w fun e w' => e = .returned (.bool true) ∧ Below w.heap.size w w' := by
  have H1 := Lib.hid (fun w => Spread_any n k (by omega) w)
  have H2 := Lib.hid (fun w => Spread_any n (k - 1) (by omega) w)
  have H3 := Lib.hid (fun w => Spread_any (n - 1) k (by omega) w)
  rw [show ((k - 1 : Nat) : Int) = (k : Int) - 1 by omega] at H2
  rw [show ((n - 1 : Nat) : Int) = (n : Int) - 1 by omega] at H3
  have hl := spread_law n (by omega) h1 k (by omega) h2
  have b1 := spread_bd n (by omega) (k - 1) (by omega)
  have b2 := spread_bd (n - 1) (by omega) k (by omega)
  generalize spread n (k - 1) = y at *
  generalize spread (n - 1) k = z at *
  rw [hl] at H1
  clear hl
  rw [Int.natCast_add] at H1
  go_enter Try.func7, Try.ntmps7
  go_wp2_with fail
  refine (alive_any _).mono ?_
  rintro e w1 ⟨rfl, hb1⟩
  go_wp2_with fail
  refine (H1.out _).mono ?_
  rintro e w2 ⟨rfl, hb2⟩
  go_wp2_with fail
  refine (H2.out _).mono ?_
  rintro e w3 ⟨rfl, hb3⟩
  go_wp2_with fail
  refine (H3.out _).mono ?_
  rintro e w4 ⟨rfl, hb4⟩
  have s1 := hb1.size
  have s2 := hb2.size
  have s3 := hb3.size
  have HB := Lib.hid (((hb1.trans (hb2.mono s1)).trans (hb3.mono (by omega))).trans (hb4.mono (by omega)))
  clear hb1 hb2 hb3 hb4 s1 s2 s3
  go_wp2_with fail
  go_ret
  exact ⟨by simp, HB.out⟩
theorem walk (a0 a1 : Int) (w : World) (w0 : (Lit.int .i64 a0).wf = true) (w1 : (Lit.int .i64 a1).wf = true) :
    Calls Try.prog 7 #[.int .i64 a0, .int .i64 a1] w fun e w' => e = .returned (.bool true) ∧ Below w.heap.size w w' := by
  by_cases hx : a0 < 1 ∨ a1 < 1 ∨ 25 < a0 ∨ 25 < a1
  · exact walk_out a0 a1 hx w
  · obtain ⟨n, rfl⟩ : ∃ n : Nat, a0 = n := ⟨a0.toNat, by omega⟩
    obtain ⟨k, rfl⟩ : ∃ n : Nat, a1 = n := ⟨a1.toNat, by omega⟩
    exact walk_in n k (by omega) (by omega) (by omega) (by omega) w
end Go.Proofs.Ytgikbmfajdjaeaa.urnsSpread
