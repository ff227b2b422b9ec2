/- The walk of UrnsWrong. No condition. -/
import Derived.Test.YtgikbmfajdjaeaaLaws
set_option linter.unusedSimpArgs false
set_option linter.unusedVariables false
namespace Go.Proofs.Ytgikbmfajdjaeaa.urnsWrong
open Go.RowKit Go.Proofs.Ytgikbmfajdjaeaa
theorem walk_out (n : Int) (hx : n < 0 ∨ 18 < n) (w : World) : Calls Try.prog 4 #[.int .i64 n] w fun e w' => e = .returned (.bool true) ∧ Below w.heap.size w w' := by
  rcases hx with h | h
  all_goals
    go_enter Try.func4, Try.ntmps4
    go_wp2_with fail
    refine (alive_any _).mono ?_
    rintro e w1 ⟨rfl, hb1⟩
    go_wp2_with fail
    all_goals
      go_ret
      exact ⟨rfl, hb1⟩
theorem wterm_bd : ∀ n, n < 19 → ∀ k, k < 19 → 0 ≤ (wr2 (n - k)).1 * ((pasL n).getD k 0 : Nat) ∧ (wr2 (n - k)).1 * ((pasL n).getD k 0 : Nat) ≤ 3000000000000000 := by decide +kernel
theorem wsum_bd (n : Nat) (hn : n ≤ 18) : ∀ k, k ≤ 19 → 0 ≤ wsum n k ∧ wsum n k ≤ 3000000000000000 * k := by
  intro k
  induction k with
  | zero => intro _; simp [wsum]
  | succ k ih =>
    intro hk
    obtain ⟨h1, h2⟩ := ih (by omega)
    have h3 := wterm_bd n (by omega) k (by omega)
    rw [← pas_L] at h3
    rw [wsum]; omega
set_option maxHeartbeats 800000 in
theorem walk_in (n : Nat) (hn : n ≤ 18) (w : World) : Calls Try.prog 4 #[.int .i64 n] w fun e w' => e = .returned (.bool true) ∧ Below w.heap.size w w' := by
  have HL := Lib.hid (wrong_law n hn)
  have HS := Lib.hid (wsum_bd n hn)
  have HW : Hid (∀ k : Nat, k ≤ n → ∀ w, Calls Try.prog 11 #[.int .i64 ((n : Int) - (k : Int))] w fun e w' => e = .returned (.tuple #[.int .i64 (wr2 (n - k)).1, .int .i64 0]) ∧ Below w.heap.size w w') := fun k hk w => by
    have := Wrongly_any (n - k) (by omega) w
    rwa [show ((n - k : Nat) : Int) = (n : Int) - (k : Int) by omega] at this
  have HE := Lib.hid (fun j => EOf_any n j (by omega))
  have HD := Lib.hid (DFact_any n (by omega))
  have HT := Lib.hid (fun k hk => wterm_bd n (by omega) k hk)
  go_enter Try.func4, Try.ntmps4
  go_wp2_with fail
  refine (alive_any _).mono ?_
  rintro e w1 ⟨rfl, hb1⟩
  go_wp2_with fail
  go_loopw [3, 17] (fun s i wi => ∃ j : Nat, j ≤ n + 1 ∧ i = .int .i64 j ∧ s = .int .i64 (wsum n j) ∧ Below w.heap.size w wi) (fun _ i _ => n + 1 - (intOf i).toNat)
  case atStart => exact ⟨0, by omega, rfl, rfl, hb1⟩
  case round =>
    obtain ⟨j, hj, rfl, rfl, hbel⟩ := hrel
    obtain ⟨b1, b2⟩ := HS.out j (by omega)
    by_cases hlj : j < n + 1
    · have b3 := HT.out j (by omega)
      rw [← pas_L] at b3
      obtain ⟨b3, b4⟩ := b3
      have HA : Hid (wsum n (j + 1) = wsum n j + (wr2 (n - j)).1 * (pas n j : Nat)) := rfl
      have H1 := Lib.hid (HW.out j (by omega))
      have H2 := Lib.hid (HE.out j)
      have hlj' : (j : Int) < (n : Int) + 1 := by omega
      generalize wsum n j = s at *
      generalize (wr2 (n - j)).1 = y at *
      generalize pas n j = z at *
      go_wp2_with fail
      refine (H1.out _).mono ?_
      rintro e w2 ⟨rfl, hb2⟩
      go_wp2_with fail
      refine (H2.out _).mono ?_
      rintro e w3 ⟨rfl, hb3⟩
      have s1 := hbel.size
      have s2 := hb2.size
      have HB := Lib.hid ((hbel.trans (hb2.mono s1)).trans (hb3.mono (by omega)))
      clear hbel hb2 hb3 s1 s2
      go_wp2_with fail
      go_roundw
      case rel => exact ⟨j + 1, by omega, by go_num, by rw [HA.out], HB.out⟩
      case measure => simp [intOf]; omega
    · obtain rfl : j = n + 1 := by omega
      have hge : ¬ ((n : Int) + 1 < (n : Int) + 1) := by omega
      have hl := HL.out
      rw [hl] at b1 b2 ⊢
      have HB := Lib.hid hbel
      clear hbel hl
      generalize fac n = x at *
      go_wp2_with fail
      refine (HD.out _).mono ?_
      rintro e w3 ⟨rfl, rfl⟩
      go_wp2_with fail
      go_ret
      exact ⟨by simp, HB.out⟩
theorem walk (a0 : Int) (w : World) (w0 : (Lit.int .i64 a0).wf = true) :
    Calls Try.prog 4 #[.int .i64 a0] w fun e w' => e = .returned (.bool true) ∧ Below w.heap.size w w' := by
  by_cases hx : a0 < 0 ∨ 18 < a0
  · exact walk_out a0 hx w
  · obtain ⟨n, rfl⟩ : ∃ n : Nat, a0 = n := ⟨a0.toNat, by omega⟩
    exact walk_in n (by omega) w
end Go.Proofs.Ytgikbmfajdjaeaa.urnsWrong
