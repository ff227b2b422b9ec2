/- The walk of WalkBack. No condition. -/
import Derived.Test.YtbdlfiabijajfaaAl
import Derived.Test.YtbdlfiabijajfaaLaws
set_option linter.unusedSimpArgs false
set_option linter.unusedVariables false
namespace Go.Proofs.Ytbdlfiabijajfaa.walkBack
open Go.RowKit Go.Proofs.Ytbdlfiabijajfaa
theorem walk_out (n : Int) (hx : n < 1 ∨ 28 < n) (w : World) : Calls Try.prog 6 #[.int .i64 n] w fun e w' => e = .returned (.bool true) ∧ Below w.heap.size w w' := by
  rcases hx with h1 | h1
  · go_enter Try.func6, Try.ntmps6
    go_wp2_with fail
    refine (alive_any _).mono ?_
    rintro e w1 ⟨rfl, hb1⟩
    go_wp2_with fail
    go_ret
    exact ⟨rfl, hb1⟩
  · have h2 : ¬ n < 1 := by omega
    go_enter Try.func6, Try.ntmps6
    go_wp2_with fail
    refine (alive_any _).mono ?_
    rintro e w1 ⟨rfl, hb1⟩
    go_wp2_with fail
    go_ret
    exact ⟨rfl, hb1⟩
set_option maxHeartbeats 800000 in
theorem walk_in (n : Nat) (hn1 : 1 ≤ n) (hn : n ≤ 28) (w : World) : Calls Try.prog 6 #[.int .i64 n] w fun e w' => e = .returned (.bool true) ∧ Below w.heap.size w w' := by
  have HC : Hid (∀ k : Nat, k < n → ∀ w, Calls Try.prog 12 #[.int .i64 (2 * ((k : Int) + 1))] w fun e w' => e = .returned (.tuple #[.int .i64 (fi (2 * (k + 1))), .int .i64 0]) ∧ Below w.heap.size w w') := fun k hk w => by
    have := First_any (2 * (k + 1)) (by omega) w
    rwa [show ((2 * (k + 1) : Nat) : Int) = 2 * ((k : Int) + 1) by omega] at this
  have HC2 : Hid (∀ k : Nat, k < n → ∀ w, Calls Try.prog 9 #[.int .i64 (2 * (n : Int) - 2 * ((k : Int) + 1)), .int .i64 0] w fun e w' => e = .returned (.tuple #[.int .i64 (fr (2 * n - 2 * (k + 1)) 0 : Nat), .int .i64 0]) ∧ Below w.heap.size w w') := fun k hk w => by
    have := Free_any (2 * n - 2 * (k + 1)) (by omega) 0 (by omega) (by omega) w
    rwa [show ((2 * n - 2 * (k + 1) : Nat) : Int) = 2 * (n : Int) - 2 * ((k : Int) + 1) by omega] at this
  have HF : Hid (∀ w, Calls Try.prog 9 #[.int .i64 (2 * (n : Int)), .int .i64 0] w fun e w' => e = .returned (.tuple #[.int .i64 (fr (2 * n) 0 : Nat), .int .i64 0]) ∧ Below w.heap.size w w') := fun w => by
    have := Free_any (2 * n) (by omega) 0 (by omega) (by omega) w
    rwa [Int.natCast_mul] at this
  have HB := Lib.hid (back_bd n (by omega))
  have HB2 := Lib.hid (back_bd2 n (by omega))
  have E1 := Lib.hid (comes_back n (by omega) hn1)
  go_enter Try.func6, Try.ntmps6
  go_wp2_with fail
  refine (alive_any _).mono ?_
  rintro e w1 ⟨rfl, hb1⟩
  go_wp2_with fail
  go_loopw [3, 4] (fun s i wr => ∃ k : Nat, k ≤ n ∧ i = .int .i64 ((k : Int) + 1) ∧ s = .int .i64 (rsum n k) ∧ Below w.heap.size w wr) (fun _ i _ => n + 1 - (intOf i).toNat)
  case atStart => exact ⟨0, by omega, rfl, rfl, hb1⟩
  case round =>
    obtain ⟨k, hk, rfl, rfl, hbel⟩ := hrel
    by_cases hlt : k < n
    · obtain ⟨b1, b2⟩ := HB.out k (by omega)
      obtain ⟨b3, b4⟩ := HB2.out k (by omega)
      have HS : Hid (rsum n (k + 1) = rsum n k + fi (2 * (k + 1)) * (fr (2 * n - 2 * (k + 1)) 0 : Int)) := rfl
      have H1 := Lib.hid (HC.out k (by omega))
      have H2 := Lib.hid (HC2.out k (by omega))
      have hlt' : (k : Int) + 1 ≤ (n : Int) := by omega
      generalize rsum n k = s at *
      generalize fi (2 * (k + 1)) = x at *
      generalize fr (2 * n - 2 * (k + 1)) 0 = y at *
      go_wp2_with fail
      refine (H1.out _).mono ?_
      rintro e w2 ⟨rfl, hb2⟩
      go_wp2_with fail
      refine (H2.out _).mono ?_
      rintro e w3 ⟨rfl, hb3⟩
      go_wp2_with fail
      have s0 := hbel.size
      have s2 := hb2.size
      go_roundw
      case rel => exact ⟨k + 1, by omega, by go_num, by rw [HS.out], (hbel.trans (hb2.mono s0)).trans (hb3.mono (by omega))⟩
      case measure => simp [intOf]; omega
    · obtain rfl : k = n := by omega
      have hge : ¬ ((k : Int) + 1 ≤ (k : Int)) := by omega
      have hE1 := E1.out
      rw [hE1]
      clear hE1 E1
      generalize fr (2 * k) 0 = y at *
      have k1 : ((y : Int) == (y : Int)) = true := by simp
      go_wp2_with fail
      refine (HF.out _).mono ?_
      rintro e w2 ⟨rfl, hb2⟩
      go_wp2_with fail
      go_ret
      exact ⟨by simp, hbel.trans (hb2.mono hbel.size)⟩
theorem walk (a0 : Int) (w : World) (w0 : (Lit.int .i64 a0).wf = true) :
    Calls Try.prog 6 #[.int .i64 a0] w fun e w' => e = .returned (.bool true) ∧ Below w.heap.size w w' := by
  by_cases hx : a0 < 1 ∨ 28 < a0
  · exact walk_out a0 hx w
  · obtain ⟨n, rfl⟩ : ∃ n : Nat, a0 = n := ⟨a0.toNat, by omega⟩
    exact walk_in n (by omega) (by omega) w
end Go.Proofs.Ytbdlfiabijajfaa.walkBack
