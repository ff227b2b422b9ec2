/- ruin.Wrong, Well and Fair: what they answer. No condition. -/
import Derived.Test.YtkppkfbgolmonaaDef
set_option linter.unusedSimpArgs false
set_option linter.unusedVariables false
namespace Go.Proofs.Ytkppkfbgolmonaa
open Go.RowKit
def Ok3 (win lose top : Int) : Prop := 1 ≤ win ∧ 1 ≤ lose ∧ win ≤ 9 ∧ lose ≤ 9 ∧ 1 ≤ top ∧ top ≤ 16
theorem wrong_no (win lose top : Int) (h : Ok3 win lose top) (w : World) : Calls Try.prog 16 #[.int .i64 win, .int .i64 lose, .int .i64 top] w fun e w' => e = .returned (.int .i64 0) ∧ w = w' := by
  obtain ⟨h1, h2, h3, h4, h5, h6⟩ := h
  go_enter Try.func16, Try.ntmps16
  go_wp2_with fail
  go_ret
  exact ⟨rfl, rfl⟩
theorem wrong_yes (win lose top : Int) (h : ¬ Ok3 win lose top) (w : World) : Calls Try.prog 16 #[.int .i64 win, .int .i64 lose, .int .i64 top] w fun e w' => e = .returned (.int .i64 2) ∧ w = w' := by
  have h' : win < 1 ∨ lose < 1 ∨ 9 < win ∨ 9 < lose ∨ top < 1 ∨ 16 < top := by unfold Ok3 at h; omega
  clear h
  rcases h' with h | h | h | h | h | h
  all_goals
    go_enter Try.func16, Try.ntmps16
    go_wp2_with fail
    all_goals
      go_ret
      exact ⟨rfl, rfl⟩
theorem num_bd : ∀ a, a < 10 → ∀ b, b < 10 → ∀ top, top < 17 → ∀ has, has < top + 1 → rsum a b has has * a ^ (top - has) ≤ 100000000000000000 := by decide +kernel
theorem den_pos : ∀ a, a < 10 → 1 ≤ a → ∀ b, b < 10 → ∀ top, top < 17 → 1 ≤ top → 0 < rsum a b top top := by decide +kernel
def wnum (a b top has : Nat) : Nat := rsum a b has has * a ^ (top - has)
def wellN (win lose top has : Nat) : Nat × Nat :=
  lowN (wnum (win / Nat.gcd win lose) (lose / Nat.gcd win lose) top has) (rsum (win / Nat.gcd win lose) (lose / Nat.gcd win lose) top top)
set_option maxHeartbeats 1600000 in
theorem well_ok (win lose top has : Nat) (h : Ok3 win lose top) (hh : has ≤ top) (w : World) : Calls Try.prog 9 #[.int .i64 win, .int .i64 lose, .int .i64 top, .int .i64 has] w fun e w' => e = .returned (.tuple #[frv (wellN win lose top has), .int .i64 0]) ∧ Below w.heap.size w w' := by
  have HW := Lib.hid (fun w => wrong_no win lose top h w)
  obtain ⟨h1, h2, h3, h4, h5, h6⟩ := h
  have H0 := Lib.hid (fun w => gcd17 win lose w)
  have hg : 0 < Nat.gcd win lose := Nat.gcd_pos_of_pos_left lose (by omega)
  have hwl : Nat.gcd win lose ≤ win := Nat.gcd_le_left _ (by omega)
  have ha1 : 1 ≤ win / Nat.gcd win lose := Nat.div_pos hwl hg
  have ha2 : win / Nat.gcd win lose ≤ win := Nat.div_le_self _ _
  have hb2 : lose / Nat.gcd win lose ≤ lose := Nat.div_le_self _ _
  have HN : Hid (wellN win lose top has = lowN (wnum (win / Nat.gcd win lose) (lose / Nat.gcd win lose) top has) (rsum (win / Nat.gcd win lose) (lose / Nat.gcd win lose) top top)) := rfl
  generalize Nat.gcd win lose = g at *
  obtain ⟨a, hA⟩ : ∃ a, win / g = a := ⟨_, rfl⟩
  obtain ⟨b, hB⟩ : ∃ b, lose / g = b := ⟨_, rfl⟩
  rw [hA] at ha1 ha2 HN
  rw [hB] at hb2 HN
  have q1 : (win : Int) / (g : Int) = (a : Int) := by rw [← hA]; rfl
  have q2 : (lose : Int) / (g : Int) = (b : Int) := by rw [← hB]; rfl
  clear hA hB
  have H1 := Lib.hid (fun w => row19 a b has (by omega) (by omega) (by omega) w)
  have H2 : Hid (∀ w, Calls Try.prog 20 #[.int .i64 a, .int .i64 ((top : Int) - (has : Int))] w fun e w' => e = .returned (.int .i64 (a ^ (top - has) : Nat)) ∧ w = w') := fun w => by
    have := pow20 a (top - has) (by omega) (by omega) w
    rwa [show ((top - has : Nat) : Int) = (top : Int) - (has : Int) by omega] at this
  have H3 := Lib.hid (fun w => row19 a b top (by omega) (by omega) (by omega) w)
  have n1 := num_bd a (by omega) b (by omega) top (by omega) has (by omega)
  have n2 := den_pos a (by omega) ha1 b (by omega) top (by omega) (by omega)
  have n3 := rsum_bd a b top (by omega) (by omega) (by omega) top (Nat.le_refl _)
  have n4 := rsum_bd a b has (by omega) (by omega) (by omega) has (Nat.le_refl _)
  have n5 := pow9 a (top - has) (by omega) (by omega)
  have H4 := Lib.hid (fun w => low18 (wnum a b top has) (rsum a b top top) n2 (by unfold wnum; omega) (by omega) w)
  have HM : Hid (((wnum a b top has : Nat) : Int) = ((rsum a b has has : Nat) : Int) * ((a ^ (top - has) : Nat) : Int)) := by show _ = _; unfold wnum; rw [Int.natCast_mul]
  rw [HM.out] at H4
  have m1 : 0 ≤ ((rsum a b has has : Nat) : Int) * ((a ^ (top - has) : Nat) : Int) := Int.mul_nonneg (by omega) (by omega)
  have m2 : ((rsum a b has has : Nat) : Int) * ((a ^ (top - has) : Nat) : Int) ≤ 100000000000000000 := by rw [← Int.natCast_mul]; omega
  rw [← HN.out] at H4
  have g0 : ¬ (g : Int) = 0 := by omega
  clear n1 hg hwl ha1
  generalize rsum a b has has = r1 at *
  generalize a ^ (top - has) = r2 at *
  generalize rsum a b top top = r3 at *
  generalize wellN win lose top has = q at *
  go_enter Try.func9, Try.ntmps9
  go_wp2_with fail
  refine (HW.out _).mono ?_
  rintro e w1 ⟨rfl, rfl⟩
  go_wp2_with fail
  refine (H0.out _).mono ?_
  rintro e w1 ⟨rfl, hb1⟩
  have hk := heap_kept hb1
  have HB := Lib.hid (((Below.refl w.heap.size w).alloc (Nat.le_refl _) _).trans (hb1.mono (by simp)))
  clear hb1
  have HK := Lib.hid hk; clear hk
  go_wp2_with fail
  go_quiet (fail)
  go_wp2_with fail
  refine (H1.out _).mono ?_
  rintro e w2 ⟨rfl, rfl⟩
  go_wp2_with fail
  refine (H2.out _).mono ?_
  rintro e w2 ⟨rfl, rfl⟩
  go_wp2_with fail
  refine (H3.out _).mono ?_
  rintro e w2 ⟨rfl, rfl⟩
  go_wp2_with fail
  refine (H4.out _).mono ?_
  rintro e w2 ⟨rfl, hb2⟩
  obtain ⟨qx, qy⟩ := q
  have hk2 : w2.heap[w.heap.size]? = some (.cells #[.int .i64 0, .int .i64 0] 24) := (hb2.block w.heap.size (lt_of_block HK.out)).trans HK.out
  obtain ⟨c0, c1, f0, f1⟩ := pair_cells hk2
  have HB2 : Hid (Below w.heap.size w w2) := (HB.out.drewN _).trans (hb2.mono HB.out.size)
  clear hb2 hk2
  simp only [frv]
  go_wp2_with fail
  refine bodyPost_ret (v := .tuple #[frv (qx, qy), .int .i64 0]) (by simp [results, Try.results9, go_sem, frv, c0, c1]) rfl ⟨rfl, ?_⟩
  exact ((HB2.out.setCell (Nat.le_refl _) _).setCell (Nat.le_refl _) _)
theorem well_bad (win lose top has : Int) (h : ¬ Ok3 win lose top) (w : World) : Calls Try.prog 9 #[.int .i64 win, .int .i64 lose, .int .i64 top, .int .i64 has] w fun e w' => e = .returned (.tuple #[frv (0, 0), .int .i64 2]) ∧ Below w.heap.size w w' := by
  have HW := Lib.hid (fun w => wrong_yes win lose top h w)
  clear h
  go_enter Try.func9, Try.ntmps9
  go_wp2_with fail
  refine (HW.out _).mono ?_
  rintro e w1 ⟨rfl, rfl⟩
  go_wp2_with fail
  refine bodyPost_ret (v := .tuple #[frv (0, 0), .int .i64 2]) (by simp [results, Try.results9, go_sem, frv]) rfl ⟨rfl, ?_⟩
  exact (Below.refl _ _).alloc (Nat.le_refl _) _
theorem well_none (win lose top has : Int) (h : Ok3 win lose top) (hh : has < 0 ∨ top < has) (w : World) : Calls Try.prog 9 #[.int .i64 win, .int .i64 lose, .int .i64 top, .int .i64 has] w fun e w' => e = .returned (.tuple #[frv (0, 0), .int .i64 3]) ∧ Below w.heap.size w w' := by
  have HW := Lib.hid (fun w => wrong_no win lose top h w)
  clear h
  rcases hh with h | h
  all_goals
    go_enter Try.func9, Try.ntmps9
    go_wp2_with fail
    refine (HW.out _).mono ?_
    rintro e w1 ⟨rfl, rfl⟩
    go_wp2_with fail
    all_goals
      refine bodyPost_ret (v := .tuple #[frv (0, 0), .int .i64 3]) (by simp [results, Try.results9, go_sem, frv]) rfl ⟨rfl, ?_⟩
      exact (Below.refl _ _).alloc (Nat.le_refl _) _
theorem fair_ok (top has : Nat) (h1 : 1 ≤ top) (h2 : top ≤ 400) (h3 : has ≤ top) (w : World) : Calls Try.prog 14 #[.int .i64 top, .int .i64 has] w fun e w' => e = .returned (.tuple #[.int .i64 ((has * (top - has) : Nat) : Int), .int .i64 0]) ∧ w = w' := by
  have HE : Hid (((has * (top - has) : Nat) : Int) = (has : Int) * ((top : Int) - (has : Int))) := by
    show _ = _; rw [Int.natCast_mul, Int.natCast_sub h3]
  have m1 : (has : Int) * ((top : Int) - (has : Int)) ≤ 400 * 400 := Int.mul_le_mul (by omega) (by omega) (by omega) (by omega)
  have m2 : 0 ≤ (has : Int) * ((top : Int) - (has : Int)) := Int.mul_nonneg (by omega) (by omega)
  go_enter Try.func14, Try.ntmps14
  go_wp2_with fail
  go_ret2
  exact ⟨by rw [HE.out]; rfl, rfl⟩
end Go.Proofs.Ytkppkfbgolmonaa
