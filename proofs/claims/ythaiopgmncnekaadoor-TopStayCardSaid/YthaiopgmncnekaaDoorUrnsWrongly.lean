/- Walk of urns.Wrongly in its range. No condition. -/
import Derived.Test.YthaiopgmncnekaaDoorUrnsParts
set_option linter.unusedSimpArgs false
set_option linter.unusedVariables false
set_option maxRecDepth 20000
namespace Go.Proofs.YthaiopgmncnekaaDoor.Urns
open Go.RowKit
/-- Two derangement numbers, one behind the other. -/
def wr2 : Nat → Int × Int
  | 0 => (1, 0)
  | k + 1 => ((wr2 k).2, ((k : Int) + 1) * ((wr2 k).1 + (wr2 k).2))
theorem wr2_bd : ∀ k, k < 19 → 0 ≤ (wr2 k).1 ∧ (wr2 k).1 ≤ 1000000000000000000 ∧ 0 ≤ (wr2 k).2 ∧ (wr2 k).2 ≤ 1000000000000000000 ∧ ((k : Int) + 1) * ((wr2 k).1 + (wr2 k).2) ≤ 9000000000000000000 := by decide +kernel
theorem wr2_le : ∀ k, k < 20 → 0 ≤ (wr2 k).1 ∧ (wr2 k).1 ≤ 1000000000000000000 ∧ 0 ≤ (wr2 k).2 ∧ (wr2 k).2 ≤ 1000000000000000000 := by decide +kernel
set_option maxHeartbeats 400000 in
theorem Wrongly_any (n : Nat) (hn : n ≤ 19) (w : World) : Calls Tryd.prog 18 #[.int .i64 n] w fun e w' => e = .returned (.tuple #[.int .i64 (wr2 n).1, .int .i64 0]) ∧ Below w.heap.size w w' := by
  go_enter Tryd.func18, Tryd.ntmps18
  go_wp2_with fail
  refine (wrong_no n 0 (by omega) (by omega) _).mono ?_
  rintro e w' ⟨rfl, rfl⟩
  go_wp2_with fail
  go_loopw [4, 5, 6] (fun a b i wr => ∃ k : Nat, k ≤ n ∧ i = .int .i64 ((k : Int) + 1) ∧ a = .int .i64 (wr2 k).1 ∧ b = .int .i64 (wr2 k).2 ∧ Below w.heap.size w wr) (fun _ _ i _ => n + 1 - (intOf i).toNat)
  case atStart => exact ⟨0, by omega, rfl, rfl, rfl, Below.refl _ _⟩
  case round =>
    obtain ⟨k, hk, rfl, rfl, rfl, hbel⟩ := hrel
    by_cases hlt : k < n
    · obtain ⟨b1, b2, b3, b4⟩ := wr2_le k (by omega)
      have b5 := (wr2_bd k (by omega)).2.2.2.2
      have HS : Hid (wr2 (k + 1) = ((wr2 k).2, ((k : Int) + 1) * ((wr2 k).1 + (wr2 k).2))) := rfl
      have b6 : 0 ≤ ((k : Int) + 1) * ((wr2 k).1 + (wr2 k).2) := Int.mul_nonneg (by omega) (by omega)
      have hlt' : (k : Int) + 1 ≤ (n : Int) := by omega
      generalize (wr2 k).1 = x at *
      generalize (wr2 k).2 = y at *
      go_wp2_with fail
      first | (go_quiet (fail); go_wp2_with fail) | skip
      go_roundw
      case rel => exact ⟨k + 1, by omega, by go_num, by rw [HS.out], by rw [HS.out], by first | exact hbel | exact hbel.drewN _⟩
      case measure => simp [intOf]; omega
    · obtain rfl : k = n := by omega
      have hge : ¬ ((k : Int) + 1 ≤ (k : Int)) := by omega
      generalize hx : (wr2 k).1 = x at *
      generalize (wr2 k).2 = y at *
      have HX := Lib.hid hx; clear hx
      go_wp2_with fail
      go_ret2
      exact ⟨by rw [HX.out]; rfl, hbel⟩
end Go.Proofs.YthaiopgmncnekaaDoor.Urns
