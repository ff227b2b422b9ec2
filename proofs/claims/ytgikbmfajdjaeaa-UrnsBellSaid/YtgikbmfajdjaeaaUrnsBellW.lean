/- The walk of UrnsBell. No condition. -/
import Derived.Test.YtgikbmfajdjaeaaLaws
set_option linter.unusedSimpArgs false
set_option linter.unusedVariables false
namespace Go.Proofs.Ytgikbmfajdjaeaa.urnsBell
open Go.RowKit Go.Proofs.Ytgikbmfajdjaeaa
theorem walk_out (n : Int) (hx : n < 0 ∨ 18 < n) (w : World) : Calls Try.prog 5 #[.int .i64 n] w fun e w' => e = .returned (.bool true) ∧ Below w.heap.size w w' := by
  rcases hx with h | h
  all_goals
    go_enter Try.func5, Try.ntmps5
    go_wp2_with fail
    refine (alive_any _).mono ?_
    rintro e w1 ⟨rfl, hb1⟩
    go_wp2_with fail
    all_goals
      go_ret
      exact ⟨rfl, hb1⟩
theorem lterm_bd : ∀ n, n < 19 → ∀ k, k < 19 → 0 ≤ bell k * ((pasL n).getD k 0 : Nat) ∧ bell k * ((pasL n).getD k 0 : Nat) ≤ 10000000000000 := by decide +kernel
theorem lsum_bd (n : Nat) (hn : n ≤ 18) : ∀ k, k ≤ 19 → 0 ≤ lsum n k ∧ lsum n k ≤ 10000000000000 * k := by
  intro k
  induction k with
  | zero => intro _; simp [lsum]
  | succ k ih =>
    intro hk
    obtain ⟨h1, h2⟩ := ih (by omega)
    have h3 := lterm_bd n (by omega) k (by omega)
    rw [← pas_L] at h3
    rw [lsum]; omega
set_option maxHeartbeats 800000 in
theorem walk_in (n : Nat) (hn : n ≤ 18) (w : World) : Calls Try.prog 5 #[.int .i64 n] w fun e w' => e = .returned (.bool true) ∧ Below w.heap.size w w' := by
  have HL := Lib.hid (bell_law n hn)
  have HS := Lib.hid (lsum_bd n hn)
  have HW := Lib.hid (fun k hk => Bell_any k (show k ≤ 20 from hk))
  have HN : Hid (∀ w, Calls Try.prog 13 #[.int .i64 ((n : Int) + 1)] w fun e w' => e = .returned (.tuple #[.int .i64 (bell (n + 1)), .int .i64 0]) ∧ Below w.heap.size w w') := fun w => Bell_any (n + 1) (by omega) w
  have HP : Hid (∀ k : Nat, k ≤ n + 1 → ∀ w, Calls Try.prog 14 #[.int .i64 ((n : Int) + 1), .int .i64 k] w fun e w' => e = .returned (.tuple #[.int .i64 (parts (n + 1) k), .int .i64 0]) ∧ Below w.heap.size w w') := fun k hk w => Parts_any (n + 1) k (by omega) (by omega) w
  have HE := Lib.hid (fun j => EOf_any n j (by omega))
  have HT := Lib.hid (fun k hk => lterm_bd n (by omega) k hk)
  have HBS := Lib.hid (bsum_bd (n + 1) (by omega))
  have HPB := Lib.hid (fun k hk => parts_bd (n + 1) k (by omega) hk)
  go_enter Try.func5, Try.ntmps5
  go_wp2_with fail
  refine (alive_any _).mono ?_
  rintro e w1 ⟨rfl, hb1⟩
  go_wp2_with fail
  go_loopw [3, 23] (fun s i wi => ∃ j : Nat, j ≤ n + 1 ∧ i = .int .i64 j ∧ s = .int .i64 (lsum n j) ∧ Below w.heap.size w wi) (fun _ i _ => n + 1 - (intOf i).toNat)
  case atStart => exact ⟨0, by omega, rfl, rfl, hb1⟩
  case round =>
    obtain ⟨j, hj, rfl, rfl, hbel⟩ := hrel
    obtain ⟨b1, b2⟩ := HS.out j (by omega)
    by_cases hlj : j < n + 1
    · have b3 := HT.out j (by omega)
      rw [← pas_L] at b3
      obtain ⟨b3, b4⟩ := b3
      have HA : Hid (lsum n (j + 1) = lsum n j + bell j * (pas n j : Nat)) := rfl
      have H1 := Lib.hid (HW.out j (by omega))
      have H2 := Lib.hid (HE.out j)
      have hlj' : (j : Int) < (n : Int) + 1 := by omega
      generalize lsum n j = s at *
      generalize bell j = y at *
      generalize pas n j = z at *
      go_wp2_with fail
      refine (H1.out _).mono ?_
      rintro e w2 ⟨rfl, hb2⟩
      go_wp2_with fail
      refine (H2.out _).mono ?_
      rintro e w3 ⟨rfl, hb3⟩
      have s1 := hbel.size
      have s2 := hb2.size
      have HB := Lib.hid ((hbel.trans (hb2.mono s1)).trans (hb3.mono (by omega)))
      clear hbel hb2 hb3 s1 s2
      go_wp2_with fail
      go_roundw
      case rel => exact ⟨j + 1, by omega, by go_num, by rw [HA.out], HB.out⟩
      case measure => simp [intOf]; omega
    · obtain rfl : j = n + 1 := by omega
      have hge : ¬ ((n : Int) + 1 < (n : Int) + 1) := by omega
      have hl := HL.out
      have HZ : Hid (bsum (n + 1) (n + 2) = bell (n + 1)) := rfl
      rw [hl] at b1 b2 ⊢
      have s1 := hbel.size
      have HB := Lib.hid hbel
      clear hbel hl
      generalize bell (n + 1) = x at *
      go_wp2_with fail
      refine (HN.out _).mono ?_
      rintro e w3 ⟨rfl, hb3⟩
      have HB3 := Lib.hid (HB.out.trans (hb3.mono s1))
      clear hb3 s1 HB
      go_wp2_with fail
      go_loopw [9, 49] (fun s i wi => ∃ j : Nat, j ≤ n + 2 ∧ i = .int .i64 j ∧ s = .int .i64 (bsum (n + 1) j) ∧ Below w.heap.size w wi) (fun _ i _ => n + 2 - (intOf i).toNat)
      case atStart => exact ⟨0, by omega, rfl, rfl, HB3.out⟩
      case round =>
        obtain ⟨j, hj, rfl, rfl, hbel⟩ := hrel
        obtain ⟨d1, d2⟩ := HBS.out j (by omega)
        have s1 := hbel.size
        by_cases hlj : j < n + 2
        · obtain ⟨d3, d4⟩ := HPB.out j (by omega)
          have HA : Hid (bsum (n + 1) (j + 1) = bsum (n + 1) j + parts (n + 1) j) := rfl
          have H1 := Lib.hid (HP.out j (by omega))
          have hlj' : (j : Int) < (n : Int) + 2 := by omega
          generalize bsum (n + 1) j = s at *
          generalize parts (n + 1) j = y at *
          go_wp2_with fail
          refine (H1.out _).mono ?_
          rintro e w2 ⟨rfl, hb2⟩
          have HB := Lib.hid (hbel.trans (hb2.mono s1))
          clear hbel hb2 s1
          go_wp2_with fail
          go_roundw
          case rel => exact ⟨j + 1, by omega, by go_num, by rw [HA.out], HB.out⟩
          case measure => simp [intOf]; omega
        · obtain rfl : j = n + 2 := by omega
          have hge : ¬ ((n : Int) + 2 < (n : Int) + 2) := by omega
          have hz := HZ.out
          rw [hz] at d1 d2 ⊢
          have HB := Lib.hid hbel
          clear hbel hz
          go_wp2_with fail
          go_ret
          exact ⟨by simp, HB.out⟩
theorem walk (a0 : Int) (w : World) (w0 : (Lit.int .i64 a0).wf = true) :
    Calls Try.prog 5 #[.int .i64 a0] w fun e w' => e = .returned (.bool true) ∧ Below w.heap.size w w' := by
  by_cases hx : a0 < 0 ∨ 18 < a0
  · exact walk_out a0 hx w
  · obtain ⟨n, rfl⟩ : ∃ n : Nat, a0 = n := ⟨a0.toNat, by omega⟩
    exact walk_in n (by omega) w
end Go.Proofs.Ytgikbmfajdjaeaa.urnsBell
