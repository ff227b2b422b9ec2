/- Walks of urns.Bell, Onto, Wrongly in their range. No condition. -/
import Derived.Test.YtgikbmfajdjaeaaParts
set_option linter.unusedSimpArgs false
set_option linter.unusedVariables false
namespace Go.Proofs.Ytgikbmfajdjaeaa
open Go.RowKit
theorem parts_bd (n k : Nat) (hn : n ≤ 20) (hk : k ≤ 20) : 0 ≤ parts n k ∧ parts n k ≤ 100000000000000 := small_get (prow_small k n hk hn) k
def bsum (n : Nat) : Nat → Int
  | 0 => 0
  | k + 1 => bsum n k + parts n k
def bell (n : Nat) : Int := bsum n (n + 1)
theorem bsum_bd (n : Nat) (hn : n ≤ 20) : ∀ k, k ≤ 21 → 0 ≤ bsum n k ∧ bsum n k ≤ 100000000000000 * k := by
  intro k
  induction k with
  | zero => intro _; simp [bsum]
  | succ k ih =>
    intro h
    have := ih (by omega)
    have := parts_bd n k hn (by omega)
    simp only [bsum]; omega
set_option maxHeartbeats 400000 in
theorem Bell_any (n : Nat) (hn : n ≤ 20) (w : World) : Calls Try.prog 13 #[.int .i64 n] w fun e w' => e = .returned (.tuple #[.int .i64 (bell n), .int .i64 0]) ∧ Below w.heap.size w w' := by
  have HB := Lib.hid (bsum_bd n hn)
  go_enter Try.func13, Try.ntmps13
  go_wp2_with fail
  refine (wrong_no n 0 hn (by omega) _).mono ?_
  rintro e w' ⟨rfl, rfl⟩
  go_wp2_with fail
  go_loopw [4, 12] (fun s i wr => ∃ k : Nat, k ≤ n + 1 ∧ i = .int .i64 k ∧ s = .int .i64 (bsum n k) ∧ Below w.heap.size w wr) (fun _ i _ => n + 1 - (intOf i).toNat)
  case atStart => exact ⟨0, by omega, rfl, rfl, Below.refl _ _⟩
  case round =>
    obtain ⟨k, hk, rfl, rfl, hbel⟩ := hrel
    obtain ⟨b1, b2⟩ := HB.out k (by omega)
    by_cases hlt : k < n + 1
    · obtain ⟨b3, b4⟩ := parts_bd n k hn (by omega)
      have HS : Hid (bsum n (k + 1) = bsum n k + parts n k) := rfl
      have H1 := Lib.hid (fun w => Parts_any n k hn (by omega) w)
      have hlt' : (k : Int) < (n : Int) + 1 := by omega
      generalize bsum n k = s at *
      generalize parts n k = x at *
      go_wp2_with fail
      refine (H1.out _).mono ?_
      rintro e w2 ⟨rfl, hb2⟩
      go_wp2_with fail
      have s0 := hbel.size
      go_roundw
      case rel => exact ⟨k + 1, by omega, by go_num, by rw [HS.out], hbel.trans (hb2.mono s0)⟩
      case measure => simp [intOf]; omega
    · obtain rfl : k = n + 1 := by omega
      have hge : ¬ ((n : Int) + 1 < (n : Int) + 1) := by omega
      have HF : Hid (bell n = bsum n (n + 1)) := rfl
      generalize bsum n (n + 1) = s at *
      go_wp2_with fail
      go_ret2
      exact ⟨by rw [HF.out]; rfl, hbel⟩
end Go.Proofs.Ytgikbmfajdjaeaa
