/- The walk of UrnsAll. No condition. -/
import Derived.Test.YtgikbmfajdjaeaaLaws
set_option linter.unusedSimpArgs false
set_option linter.unusedVariables false
namespace Go.Proofs.Ytgikbmfajdjaeaa.urnsAll
open Go.RowKit Go.Proofs.Ytgikbmfajdjaeaa
theorem walk_out (n k : Int) (hx : n < 0 ∨ k < 0 ∨ 10 < n ∨ 10 < k) (w : World) : Calls Try.prog 3 #[.int .i64 n, .int .i64 k] w fun e w' => e = .returned (.bool true) ∧ Below w.heap.size w w' := by
  rcases hx with h | h | h | h
  all_goals
    go_enter Try.func3, Try.ntmps3
    go_wp2_with fail
    refine (alive_any _).mono ?_
    rintro e w1 ⟨rfl, hb1⟩
    go_wp2_with fail
    all_goals
      go_ret
      exact ⟨rfl, hb1⟩
theorem onto_bd : ∀ n, n < 11 → ∀ k, k < 11 → 0 ≤ onto n k ∧ onto n k ≤ 100000000 := by decide +kernel
theorem pas_bd (n k : Nat) (hn : n ≤ 10) : pas n k ≤ 1024 := by
  have h1 := pas_le n k
  have h2 := Nat.pow_le_pow_right (show 0 < 2 by omega) hn
  simp at h2; omega
theorem pow_bd (n k : Nat) (hn : n ≤ 10) (hk : k ≤ 10) : k ^ n ≤ 10000000000 := by
  have h1 := Nat.pow_le_pow_left hk n
  have h2 := Nat.pow_le_pow_right (show 0 < 10 by omega) hn
  simp at h2; omega
theorem asum_bd (n k : Nat) (hn : n ≤ 10) (hk : k ≤ 10) : ∀ j, j ≤ 11 → 0 ≤ asum n k j ∧ asum n k j ≤ 102400000000 * j := by
  intro j
  induction j with
  | zero => intro _; simp [asum]
  | succ j ih =>
    intro hj
    obtain ⟨h1, h2⟩ := ih (by omega)
    obtain ⟨h3, h4⟩ := onto_bd n (by omega) j (by omega)
    have h5 := pas_bd k j hk
    have h6 : 0 ≤ onto n j * (pas k j : Nat) := Int.mul_nonneg h3 (by omega)
    have h7 : onto n j * (pas k j : Nat) ≤ 100000000 * 1024 := Int.mul_le_mul h4 (by omega) (by omega) (by omega)
    rw [asum]; omega
set_option maxHeartbeats 800000 in
theorem walk_in (n k : Nat) (hn : n ≤ 10) (hk : k ≤ 10) (w : World) : Calls Try.prog 3 #[.int .i64 n, .int .i64 k] w fun e w' => e = .returned (.bool true) ∧ Below w.heap.size w w' := by
  have HL : Hid (asum n k (k + 1) = ((k ^ n : Nat) : Int)) := all_law n k hn hk
  have HS := Lib.hid (asum_bd n k hn hk)
  have HO := Lib.hid (fun j hj => Onto_any n j hn (show j ≤ 10 from hj))
  have HE := Lib.hid (fun j => EOf_any k j (by omega))
  have HP := Lib.hid (fun m hm => pow_bd m k (show m ≤ 10 from hm) hk)
  have HB3 := Lib.hid (fun j hj => onto_bd n (by omega) j (show j < 11 from hj))
  have HB4 := Lib.hid (fun j => pas_bd k j hk)
  go_enter Try.func3, Try.ntmps3
  go_wp2_with fail
  refine (alive_any _).mono ?_
  rintro e w1 ⟨rfl, hb1⟩
  go_wp2_with fail
  go_loopw [6, 27] (fun a i wr => ∃ m : Nat, m ≤ n ∧ i = .int .i64 m ∧ a = .int .i64 ((k ^ m : Nat) : Int) ∧ wr = w1) (fun _ i _ => n - (intOf i).toNat)
  case atStart => exact ⟨0, by omega, rfl, rfl, rfl⟩
  case round =>
    obtain ⟨m, hm, rfl, rfl, rfl⟩ := hrel
    by_cases hlt : m < n
    · have p1 := HP.out m (by omega)
      have p2 := HP.out (m + 1) (by omega)
      have HM : Hid (((k ^ (m + 1) : Nat) : Int) = ((k ^ m : Nat) : Int) * (k : Int)) := by show _ = _; rw [Nat.pow_succ, Int.natCast_mul]
      have p3 : ((k ^ m : Nat) : Int) * (k : Int) ≤ 10000000000 := by rw [← HM.out]; omega
      have p4 : 0 ≤ ((k ^ m : Nat) : Int) * (k : Int) := Int.mul_nonneg (by omega) (by omega)
      clear p2
      generalize k ^ m = x at *
      go_wp2_with fail
      go_roundw
      case rel => exact ⟨m + 1, by omega, by go_num, by rw [HM.out], trivial⟩
      case measure => simp [intOf]; omega
    · obtain rfl : m = n := by omega
      generalize k ^ m = x at *
      go_wp2_with fail
      go_loopw [5, 35] (fun s i wi => ∃ j : Nat, j ≤ k + 1 ∧ i = .int .i64 j ∧ s = .int .i64 (asum m k j) ∧ Below w.heap.size w wi) (fun _ i _ => k + 1 - (intOf i).toNat)
      case atStart => exact ⟨0, by omega, rfl, rfl, hb1⟩
      case round =>
        obtain ⟨j, hj, rfl, rfl, hbel⟩ := hrel
        obtain ⟨b1, b2⟩ := HS.out j (by omega)
        by_cases hlj : j < k + 1
        · obtain ⟨b3, b4⟩ := HB3.out j (by omega)
          have b5 := HB4.out j
          have HA : Hid (asum m k (j + 1) = asum m k j + onto m j * (pas k j : Nat)) := rfl
          have H1 := Lib.hid (HO.out j (by omega))
          have H2 := Lib.hid (HE.out j)
          have b6 : 0 ≤ onto m j * (pas k j : Nat) := Int.mul_nonneg b3 (by omega)
          have b7 : onto m j * (pas k j : Nat) ≤ 100000000 * 1024 := Int.mul_le_mul b4 (by omega) (by omega) (by omega)
          have hlj' : (j : Int) < (k : Int) + 1 := by omega
          generalize asum m k j = s at *
          generalize onto m j = y at *
          generalize pas k j = z at *
          go_wp2_with fail
          refine (H1.out _).mono ?_
          rintro e w2 ⟨rfl, hb2⟩
          go_wp2_with fail
          refine (H2.out _).mono ?_
          rintro e w3 ⟨rfl, hb3⟩
          have s1 := hbel.size
          have s2 := hb2.size
          have HB := Lib.hid ((hbel.trans (hb2.mono s1)).trans (hb3.mono (by omega)))
          clear hbel hb2 hb3 s1 s2
          go_wp2_with fail
          go_roundw
          case rel => exact ⟨j + 1, by omega, by go_num, by rw [HA.out], HB.out⟩
          case measure => simp [intOf]; omega
        · obtain rfl : j = k + 1 := by omega
          have hge : ¬ ((k : Int) + 1 < (k : Int) + 1) := by omega
          have hl := HL.out
          rw [hl] at b1 b2 ⊢
          have HB := Lib.hid hbel
          clear hbel hl
          have hq : ((x : Int) == (x : Int)) = true := by simp
          go_wp2_with fail
          go_ret
          exact ⟨by simp, HB.out⟩
theorem walk (a0 a1 : Int) (w : World) (w0 : (Lit.int .i64 a0).wf = true) (w1 : (Lit.int .i64 a1).wf = true) :
    Calls Try.prog 3 #[.int .i64 a0, .int .i64 a1] w fun e w' => e = .returned (.bool true) ∧ Below w.heap.size w w' := by
  by_cases hx : a0 < 0 ∨ a1 < 0 ∨ 10 < a0 ∨ 10 < a1
  · exact walk_out a0 a1 hx w
  · obtain ⟨n, rfl⟩ : ∃ n : Nat, a0 = n := ⟨a0.toNat, by omega⟩
    obtain ⟨k, rfl⟩ : ∃ n : Nat, a1 = n := ⟨a1.toNat, by omega⟩
    exact walk_in n k (by omega) (by omega) w
end Go.Proofs.Ytgikbmfajdjaeaa.urnsAll
