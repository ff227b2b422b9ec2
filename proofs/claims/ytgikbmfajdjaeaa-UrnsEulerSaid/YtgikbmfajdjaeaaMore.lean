/- Walks of ref.DFact and urns.Onto in their range. No condition. -/
import Derived.Test.YtgikbmfajdjaeaaParts
set_option linter.unusedSimpArgs false
set_option linter.unusedVariables false
namespace Go.Proofs.Ytgikbmfajdjaeaa
open Go.RowKit
def fac : Nat → Nat
  | 0 => 1
  | n + 1 => (n + 1) * fac n
theorem fac_bd : ∀ n, n < 21 → fac n ≤ 2432902008176640000 := by decide +kernel
theorem fac_pos : ∀ n, 0 < fac n := by
  intro n
  induction n with
  | zero => decide
  | succ j ih => rw [fac]; exact Nat.mul_pos (by omega) ih
theorem DFact_any : ∀ n : Nat, n ≤ 20 → ∀ w, Calls Try.prog 12 #[.int .i64 n] w fun e w' => e = .returned (.int .i64 (fac n : Nat)) ∧ w = w' := by
  intro n
  induction n with
  | zero =>
    intro hn w
    go_enter Try.func12, Try.ntmps12
    go_wp2_with fail
    go_ret
    exact ⟨rfl, rfl⟩
  | succ n ih =>
    intro hn w
    by_cases h0 : n = 0
    · subst h0
      go_enter Try.func12, Try.ntmps12
      go_wp2_with fail
      go_ret
      exact ⟨rfl, rfl⟩
    · have HI := Lib.hid (ih (by omega))
      have h2 : ¬ ((n : Int) + 1 < 2) := by omega
      have HF : Hid (((fac (n + 1) : Nat) : Int) = ((n : Int) + 1) * (fac n : Int)) := by
        show _ = _
        rw [fac, Int.natCast_mul]; rfl
      have b1 := fac_bd n (by omega)
      have b2 := fac_bd (n + 1) (by omega)
      have b3 : 0 ≤ ((n : Int) + 1) * (fac n : Int) := Int.mul_nonneg (by omega) (by omega)
      have b4 : ((n : Int) + 1) * (fac n : Int) ≤ 2432902008176640000 := by rw [← HF.out]; omega
      clear ih b2
      generalize fac n = x at *
      go_enter Try.func12, Try.ntmps12
      go_wp2_with fail
      refine (HI.out _).mono ?_
      rintro e w' ⟨rfl, rfl⟩
      go_wp2_with fail
      go_ret
      exact ⟨by rw [HF.out]; rfl, rfl⟩
def onto (n k : Nat) : Int := parts n k * (fac k : Nat)
theorem parts_zero : ∀ n, n < 11 → ∀ k, k < 11 → 0 ≤ parts n k ∧ parts n k ≤ 100000 := by decide +kernel
theorem fac_le : ∀ k, k < 11 → fac k ≤ 3628800 := by decide +kernel
set_option maxHeartbeats 400000 in
theorem Onto_any (n k : Nat) (hn : n ≤ 10) (hk : k ≤ 10) (w : World) : Calls Try.prog 9 #[.int .i64 n, .int .i64 k] w fun e w' => e = .returned (.tuple #[.int .i64 (onto n k), .int .i64 0]) ∧ Below w.heap.size w w' := by
  obtain ⟨b1, b2⟩ := parts_zero n (by omega) k (by omega)
  have HF := Lib.hid fac_le
  have HO : Hid (onto n k = parts n k * (fac k : Nat)) := rfl
  have HP := Lib.hid (fun w => Parts_any n k (by omega) (by omega) w)
  generalize parts n k = q at *
  go_enter Try.func9, Try.ntmps9
  go_wp2_with fail
  refine (wrong_no n k (by omega) (by omega) _).mono ?_
  rintro e w' ⟨rfl, rfl⟩
  go_wp2_with fail
  refine (HP.out _).mono ?_
  rintro e w1 ⟨rfl, hb1⟩
  go_wp2_with fail
  go_loopw [6, 8] (fun p i wr => ∃ j : Nat, j ≤ k ∧ (j = 0 ∨ j + 1 ≤ k) ∧ i = .int .i64 ((j : Int) + 2) ∧ p = .int .i64 (q * (fac (j + 1) : Nat)) ∧ Below w.heap.size w wr) (fun _ i _ => k + 2 - (intOf i).toNat)
  case atStart => exact ⟨0, by omega, .inl rfl, rfl, by simp [fac], hb1⟩
  case round =>
    obtain ⟨j, hj, hj2, rfl, rfl, hbel⟩ := hrel
    by_cases hlt : j + 2 ≤ k
    · have f1 := HF.out (j + 1) (by omega)
      have f2 := HF.out (j + 2) (by omega)
      have HS : Hid (q * (fac (j + 2) : Nat) = q * (fac (j + 1) : Nat) * ((j : Int) + 2)) := by
        show _ = _
        rw [fac, Int.natCast_mul, Int.mul_assoc, Int.mul_comm ((j + 1 + 1 : Nat) : Int)]
        rfl
      have g0 : 0 ≤ q * (fac (j + 1) : Nat) := Int.mul_nonneg b1 (by omega)
      have g1 : q * (fac (j + 1) : Nat) ≤ 100000 * 3628800 := Int.mul_le_mul b2 (by omega) (by omega) (by omega)
      have hlt' : (j : Int) + 2 ≤ (k : Int) := by omega
      by_cases hz : q * (fac (j + 1) : Nat) = 0
      · have hq : q = 0 := by
          rcases Int.mul_eq_zero.1 hz with h | h
          · exact h
          · exfalso
            have := fac_pos (j + 1)
            omega
        subst hq
        have HO2 : Hid (onto n k = 0) := by show _ = _; rw [HO.out]; simp
        simp only [Int.zero_mul]
        clear HO
        go_wp2_with fail
        go_ret2
        exact ⟨by rw [HO2.out]; rfl, hbel⟩
      · have g2 : 0 < q * (fac (j + 1) : Nat) := by omega
        have g3 : q * (fac (j + 1) : Nat) * ((j : Int) + 2) ≤ 362880000000 * 12 := Int.mul_le_mul (by omega) (by omega) (by omega) (by omega)
        have g4 : 0 ≤ q * (fac (j + 1) : Nat) * ((j : Int) + 2) := Int.mul_nonneg (by omega) (by omega)
        clear hz f2
        generalize q * (fac (j + 1) : Nat) = x at *
        go_wp2_with fail
        go_roundw
        case rel => exact ⟨j + 1, by omega, .inr (by omega), by go_num, by rw [HS.out], hbel⟩
        case measure => simp [intOf]; omega
    · have hge : ¬ ((j : Int) + 2 ≤ (k : Int)) := by omega
      have HE : Hid (onto n k = q * (fac (j + 1) : Nat)) := by
        show _ = _
        rw [HO.out]
        rcases (show j + 1 = k ∨ (j = 0 ∧ k = 0) by omega) with rfl | ⟨rfl, rfl⟩
        · rfl
        · rfl
      clear HO
      generalize q * (fac (j + 1) : Nat) = x at *
      go_wp2_with fail
      go_ret2
      exact ⟨by rw [HE.out]; rfl, hbel⟩
end Go.Proofs.Ytgikbmfajdjaeaa
