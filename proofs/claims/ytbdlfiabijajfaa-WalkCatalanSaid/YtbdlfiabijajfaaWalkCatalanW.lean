/- The walk of WalkCatalan. No condition. -/
import Derived.Test.YtbdlfiabijajfaaAl
import Derived.Test.YtbdlfiabijajfaaLaws
set_option linter.unusedSimpArgs false
set_option linter.unusedVariables false
namespace Go.Proofs.Ytbdlfiabijajfaa.walkCatalan
open Go.RowKit Go.Proofs.Ytbdlfiabijajfaa
theorem walk_out (n : Int) (hx : n < 0 ∨ 27 < n) (w : World) : Calls Try.prog 5 #[.int .i64 n] w fun e w' => e = .returned (.bool true) ∧ Below w.heap.size w w' := by
  rcases hx with h1 | h1
  · go_enter Try.func5, Try.ntmps5
    go_wp2_with fail
    refine (alive_any _).mono ?_
    rintro e w1 ⟨rfl, hb1⟩
    go_wp2_with fail
    go_ret
    exact ⟨rfl, hb1⟩
  · have h2 : ¬ n < 0 := by omega
    go_enter Try.func5, Try.ntmps5
    go_wp2_with fail
    refine (alive_any _).mono ?_
    rintro e w1 ⟨rfl, hb1⟩
    go_wp2_with fail
    go_ret
    exact ⟨rfl, hb1⟩
set_option maxHeartbeats 800000 in
theorem walk_in (n : Nat) (hn : n ≤ 27) (w : World) : Calls Try.prog 5 #[.int .i64 n] w fun e w' => e = .returned (.bool true) ∧ Below w.heap.size w w' := by
  have HC : Hid (∀ k : Nat, k ≤ 28 → ∀ w, Calls Try.prog 11 #[.int .i64 k] w fun e w' => e = .returned (.tuple #[.int .i64 (cat k), .int .i64 0]) ∧ Below w.heap.size w w') := fun k hk w => Catalan_any k hk w
  have HC2 : Hid (∀ k : Nat, k ≤ n → ∀ w, Calls Try.prog 11 #[.int .i64 ((n : Int) - (k : Int))] w fun e w' => e = .returned (.tuple #[.int .i64 (cat (n - k)), .int .i64 0]) ∧ Below w.heap.size w w') := fun k hk w => by
    have := Catalan_any (n - k) (by omega) w
    rwa [show ((n - k : Nat) : Int) = (n : Int) - (k : Int) by omega] at this
  have HC3 : Hid (∀ w, Calls Try.prog 11 #[.int .i64 ((n : Int) + 1)] w fun e w' => e = .returned (.tuple #[.int .i64 (cat (n + 1)), .int .i64 0]) ∧ Below w.heap.size w w') := fun w => Catalan_any (n + 1) (by omega) w
  have HF : Hid (∀ w, Calls Try.prog 9 #[.int .i64 (2 * (n : Int)), .int .i64 0] w fun e w' => e = .returned (.tuple #[.int .i64 (fr (2 * n) 0 : Nat), .int .i64 0]) ∧ Below w.heap.size w w') := fun w => by
    have := Free_any (2 * n) (by omega) 0 (by omega) (by omega) w
    rwa [Int.natCast_mul] at this
  have HB := Lib.hid (catalan_bd n (by omega))
  have HB2 := Lib.hid (catalan_bd2 n (by omega))
  obtain ⟨e1, e2⟩ := catalan n (by omega)
  have l1 := fr_le56 (2 * n) (by omega) 0
  have E1 := Lib.hid e1; have E2 := Lib.hid e2
  clear e1 e2
  go_enter Try.func5, Try.ntmps5
  go_wp2_with fail
  refine (alive_any _).mono ?_
  rintro e w1 ⟨rfl, hb1⟩
  go_wp2_with fail
  go_loopw [3, 25] (fun s i wr => ∃ k : Nat, k ≤ n + 1 ∧ i = .int .i64 k ∧ s = .int .i64 (csum n k) ∧ Below w.heap.size w wr) (fun _ i _ => n + 1 - (intOf i).toNat)
  case atStart => exact ⟨0, by omega, rfl, rfl, hb1⟩
  case round =>
    obtain ⟨k, hk, rfl, rfl, hbel⟩ := hrel
    by_cases hlt : k < n + 1
    · obtain ⟨b1, b2⟩ := HB.out k (by omega)
      obtain ⟨b3, b4⟩ := HB2.out k (by omega)
      have HS : Hid (csum n (k + 1) = csum n k + cat k * cat (n - k)) := rfl
      have H1 := Lib.hid (HC.out k (by omega))
      have H2 := Lib.hid (HC2.out k (by omega))
      have hlt' : (k : Int) < (n : Int) + 1 := by omega
      generalize csum n k = s at *
      generalize cat k = x at *
      generalize cat (n - k) = y at *
      go_wp2_with fail
      refine (H1.out _).mono ?_
      rintro e w2 ⟨rfl, hb2⟩
      go_wp2_with fail
      refine (H2.out _).mono ?_
      rintro e w3 ⟨rfl, hb3⟩
      go_wp2_with fail
      have s0 := hbel.size
      have s2 := hb2.size
      go_roundw
      case rel => exact ⟨k + 1, by omega, by go_num, by rw [HS.out], (hbel.trans (hb2.mono s0)).trans (hb3.mono (by omega))⟩
      case measure => simp [intOf]; omega
    · obtain rfl : k = n + 1 := by omega
      have H1 := Lib.hid (HC.out n (by omega))
      have hge : ¬ ((n : Int) + 1 < (n : Int) + 1) := by omega
      have hE1 := E1.out
      obtain ⟨b1, b2⟩ := HB.out (n + 1) (by omega)
      rw [hE1] at b1 b2 ⊢
      clear hE1 E1
      have hE2 := E2.out
      have k2 : (cat n * ((n : Int) + 1) == (fr (2 * n) 0 : Int)) = true := by rw [beq_iff_eq]; exact hE2
      have k3 : 0 ≤ cat n * ((n : Int) + 1) := by rw [hE2]; omega
      have k4 : cat n * ((n : Int) + 1) ≤ 8000000000000000 := by rw [hE2]; omega
      clear hE2 E2
      generalize cat (n + 1) = z at *
      generalize cat n = x at *
      generalize fr (2 * n) 0 = y at *
      have k1 : (z == z) = true := by simp
      go_wp2_with fail
      refine (HC3.out _).mono ?_
      rintro e w2 ⟨rfl, hb2⟩
      go_wp2_with fail
      refine (H1.out _).mono ?_
      rintro e w3 ⟨rfl, hb3⟩
      go_wp2_with fail
      refine (HF.out _).mono ?_
      rintro e w4 ⟨rfl, hb4⟩
      go_wp2_with fail
      go_ret
      have s0 := hbel.size
      have s2 := hb2.size
      have s3 := hb3.size
      exact ⟨by simp, ((hbel.trans (hb2.mono s0)).trans (hb3.mono (by omega))).trans (hb4.mono (by omega))⟩
theorem walk (a0 : Int) (w : World) (w0 : (Lit.int .i64 a0).wf = true) :
    Calls Try.prog 5 #[.int .i64 a0] w fun e w' => e = .returned (.bool true) ∧ Below w.heap.size w w' := by
  by_cases hx : a0 < 0 ∨ 27 < a0
  · exact walk_out a0 hx w
  · obtain ⟨n, rfl⟩ : ∃ n : Nat, a0 = n := ⟨a0.toNat, by omega⟩
    exact walk_in n (by omega) w
end Go.Proofs.Ytbdlfiabijajfaa.walkCatalan
