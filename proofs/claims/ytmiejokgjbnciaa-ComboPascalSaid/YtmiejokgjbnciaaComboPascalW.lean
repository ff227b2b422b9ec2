/- The walk of ComboPascal. No condition. -/
import Derived.Test.YtmiejokgjbnciaaAl
set_option linter.unusedSimpArgs false
set_option linter.unusedVariables false
namespace Go.Proofs.Ytmiejokgjbnciaa.comboPascal
open Go.RowKit Go.Proofs.Ytmiejokgjbnciaa
theorem of_c (n k : Nat) (hn : n ≤ 60) (w : World) : Calls Try.prog 8 #[.int .i64 n, .int .i64 k] w fun e w' => e = .returned (.int .i64 (pas n k : Nat)) ∧ Below w.heap.size w w' := by
  have H := Lib.hid (fun w => Of_any n k hn w)
  rw [of_pas n k hn] at H
  generalize pas n k = x at *
  go_enter Try.func8, Try.ntmps8
  go_wp2_with fail
  refine (H.out _).mono ?_
  rintro e w1 ⟨rfl, hb1⟩
  go_wp2_with fail
  go_ret
  exact ⟨rfl, hb1⟩
set_option maxHeartbeats 3200000 in
theorem walk_out (n m k : Int) (hx : n < 1 ∨ m < 0 ∨ 50 < n ∨ 50 < m ∨ 50 < n + m ∨ k < 1 ∨ 50 < k) (w : World) : Calls Try.prog 3 #[.int .i64 n, .int .i64 m, .int .i64 k] w fun e w' => e = .returned (.bool true) ∧ Below w.heap.size w w' := by
  by_cases h1 : n < 1 ∨ m < 0 ∨ 50 < n ∨ 50 < m
  · rcases h1 with h | h | h | h
    all_goals
      go_enter Try.func3, Try.ntmps3
      go_wp2_with fail
      refine (alive_any _).mono ?_
      rintro e w1 ⟨rfl, hb1⟩
      go_wp2_with fail
      all_goals
        go_ret
        exact ⟨rfl, hb1⟩
  · have n1 : 1 ≤ n := by omega
    have n2 : 0 ≤ m := by omega
    have n3 : n ≤ 50 := by omega
    have n4 : m ≤ 50 := by omega
    have hx2 : 50 < n + m ∨ k < 1 ∨ 50 < k := by omega
    clear h1 hx
    rcases hx2 with h | h | h
    all_goals
      go_enter Try.func3, Try.ntmps3
      go_wp2_with fail
      refine (alive_any _).mono ?_
      rintro e w1 ⟨rfl, hb1⟩
      go_wp2_with fail
      all_goals
        go_ret
        exact ⟨rfl, hb1⟩
set_option maxHeartbeats 1600000 in
theorem walk_in (n m k : Nat) (h1 : 1 ≤ n) (hnm : n + m ≤ 50) (hk : 1 ≤ k) (hk2 : k ≤ 50) (w : World) : Calls Try.prog 3 #[.int .i64 n, .int .i64 m, .int .i64 k] w fun e w' => e = .returned (.bool true) ∧ Below w.heap.size w w' := by
  obtain ⟨q, rfl⟩ : ∃ q, n = q + 1 := ⟨n - 1, by omega⟩
  obtain ⟨j, rfl⟩ : ∃ q, k = q + 1 := ⟨k - 1, by omega⟩
  have HP := Lib.hid (fun n k hn w => of_c n k (show n ≤ 60 from hn) w)
  have HV := Lib.hid (vandermonde (q + 1) m (j + 1))
  have HL : Hid (∀ i, i ≤ j + 2 → vsum (q + 1) m (j + 1) i ≤ 1152921504606846976) := fun i hi => by
    have h1 := vsum_le (q + 1) m (j + 1) i (j + 1 + 1 - i)
    rw [show i + (j + 1 + 1 - i) = j + 1 + 1 by omega, HV.out] at h1
    have := pas_bd (q + 1 + m) (j + 1) (by omega)
    omega
  go_enter Try.func3, Try.ntmps3
  go_wp2_with fail
  refine (alive_any _).mono ?_
  rintro e w1 ⟨rfl, hb1⟩
  go_wp2_with fail
  go_loopw [8, 42] (fun sv iv wr => ∃ i : Nat, i ≤ j + 2 ∧ iv = .int .i64 i ∧ sv = .int .i64 (vsum (q + 1) m (j + 1) i : Nat) ∧ Below w.heap.size w wr) (fun _ iv _ => j + 2 - (intOf iv).toNat)
  case atStart => exact ⟨0, by omega, rfl, rfl, hb1⟩
  case round =>
    obtain ⟨i, hi, rfl, rfl, hbel⟩ := hrel
    have b1 := HL.out i hi
    by_cases hlt : i < j + 2
    · have b2 := HL.out (i + 1) (by omega)
      have HS : Hid (vsum (q + 1) m (j + 1) (i + 1) = vsum (q + 1) m (j + 1) i + pas (q + 1) i * pas m (j + 1 - i)) := rfl
      have H1 := Lib.hid (HP.out (q + 1) i (by omega))
      have H2 := Lib.hid (HP.out m (j + 1 - i) (by omega))
      rw [show ((q + 1 : Nat) : Int) = (q : Int) + 1 from rfl] at H1
      rw [show ((j + 1 - i : Nat) : Int) = (j : Int) + 1 - (i : Int) by omega] at H2
      have b3 := pas_bd (q + 1) i (by omega)
      have b4 := pas_bd m (j + 1 - i) (by omega)
      rw [HS.out] at b2
      have b5 : ((pas (q + 1) i * pas m (j + 1 - i) : Nat) : Int) ≤ 1152921504606846976 := by omega
      rw [Int.natCast_mul] at b5
      have b6 : 0 ≤ (pas (q + 1) i : Int) * (pas m (j + 1 - i) : Int) := Int.mul_nonneg (by omega) (by omega)
      have hlt' : (i : Int) < (j : Int) + 2 := by omega
      have b7 : (vsum (q + 1) m (j + 1) i : Int) + (pas (q + 1) i : Int) * (pas m (j + 1 - i) : Int) ≤ 1152921504606846976 := by rw [← Int.natCast_mul]; omega
      clear b2
      generalize vsum (q + 1) m (j + 1) i = s at *
      generalize pas (q + 1) i = x at *
      generalize pas m (j + 1 - i) = y at *
      go_wp2_with fail
      refine (H1.out _).mono ?_
      rintro e w2 ⟨rfl, hb2⟩
      go_wp2_with fail
      refine (H2.out _).mono ?_
      rintro e w3 ⟨rfl, hb3⟩
      have s1 := hbel.size
      have s2 := hb2.size
      have HB := Lib.hid ((hbel.trans (hb2.mono s1)).trans (hb3.mono (by omega)))
      clear hbel hb2 hb3 s1 s2
      go_wp2_with fail
      go_roundw
      case rel => exact ⟨i + 1, by omega, by go_num, by rw [HS.out, Int.natCast_add, Int.natCast_mul], HB.out⟩
      case measure => simp [intOf]; omega
    · obtain rfl : i = j + 2 := by omega
      have hge : ¬ ((j : Int) + 2 < (j : Int) + 2) := by omega
      have hv := HV.out
      rw [show j + 1 + 1 = j + 2 from rfl] at hv
      rw [hv] at b1 ⊢
      have hps := pas_succ q j
      have HA := Lib.hid (HP.out (q + 1) (j + 1) (by omega))
      have HB := Lib.hid (HP.out q (j + 1) (by omega))
      have HC := Lib.hid (HP.out q j (by omega))
      have HD := Lib.hid (HP.out (q + 1 + m) (j + 1) (by omega))
      have HE := Lib.hid (HP.out (q + 1) 0 (by omega))
      rw [pas_zero] at HE
      have b2 := pas_bd q j (by omega)
      have b3 := pas_bd q (j + 1) (by omega)
      rw [hps] at HA
      rw [Int.natCast_add (pas q j)] at HA
      by_cases hkn : j ≤ q
      · have hsy := pas_sym (q + 1) (j + 1) (by omega)
        have HF : Hid (∀ w, Calls Try.prog 8 #[.int .i64 ((q : Int) + 1), .int .i64 ((q : Int) + 1 - ((j : Int) + 1))] w fun e w' => e = .returned (.int .i64 ((pas q j : Nat) + (pas q (j + 1) : Nat))) ∧ Below w.heap.size w w') := fun w => by
          have := HP.out (q + 1) (q + 1 - (j + 1)) (by omega) w
          rw [← hsy, hps, Int.natCast_add] at this
          rwa [show ((q + 1 - (j + 1) : Nat) : Int) = (q : Int) + 1 - ((j : Int) + 1) by omega] at this
        have hkn' : ¬ ((q : Int) + 1 < (j : Int) + 1) := by omega
        clear hps hsy hv HV HP HL
        generalize pas (q + 1 + m) (j + 1) = z at *
        generalize pas q j = x at *
        generalize pas q (j + 1) = y at *
        go_wp2_with fail
        refine (HA.out _).mono ?_
        rintro e w2 ⟨rfl, hb2⟩
        have B2 := hbel.trans (hb2.mono hbel.size)
        go_wp2_with fail
        refine (HB.out _).mono ?_
        rintro e w3 ⟨rfl, hb3⟩
        have B3 := B2.trans (hb3.mono B2.size)
        go_wp2_with fail
        refine (HC.out _).mono ?_
        rintro e w4 ⟨rfl, hb4⟩
        have B4 := B3.trans (hb4.mono B3.size)
        clear hb2 hb3 hb4 B2 B3 hbel
        go_wp2_with fail
        refine (HD.out _).mono ?_
        rintro e w5 ⟨rfl, hb5⟩
        have B5 := B4.trans (hb5.mono B4.size)
        clear hb5 B4
        go_wp2_with fail
        refine (HA.out _).mono ?_
        rintro e w6 ⟨rfl, hb6⟩
        have B6 := B5.trans (hb6.mono B5.size)
        clear hb6 B5
        go_wp2_with fail
        refine (HF.out _).mono ?_
        rintro e w7 ⟨rfl, hb7⟩
        have B7 := B6.trans (hb7.mono B6.size)
        clear hb7 B6
        go_wp2_with fail
        refine (HE.out _).mono ?_
        rintro e w8 ⟨rfl, hb8⟩
        have B8 := Lib.hid (B7.trans (hb8.mono B7.size))
        clear hb8 B7
        go_wp2_with fail
        go_ret
        exact ⟨by simp, B8.out⟩
      · have hkn' : (q : Int) + 1 < (j : Int) + 1 := by omega
        clear hps hv HV HP HL
        generalize pas (q + 1 + m) (j + 1) = z at *
        generalize pas q j = x at *
        generalize pas q (j + 1) = y at *
        go_wp2_with fail
        refine (HA.out _).mono ?_
        rintro e w2 ⟨rfl, hb2⟩
        have B2 := hbel.trans (hb2.mono hbel.size)
        go_wp2_with fail
        refine (HB.out _).mono ?_
        rintro e w3 ⟨rfl, hb3⟩
        have B3 := B2.trans (hb3.mono B2.size)
        go_wp2_with fail
        refine (HC.out _).mono ?_
        rintro e w4 ⟨rfl, hb4⟩
        have B4 := B3.trans (hb4.mono B3.size)
        clear hb2 hb3 hb4 B2 B3 hbel
        go_wp2_with fail
        refine (HD.out _).mono ?_
        rintro e w5 ⟨rfl, hb5⟩
        have B5 := B4.trans (hb5.mono B4.size)
        clear hb5 B4
        go_wp2_with fail
        refine (HE.out _).mono ?_
        rintro e w8 ⟨rfl, hb8⟩
        have B8 := Lib.hid (B5.trans (hb8.mono B5.size))
        clear hb8 B5
        go_wp2_with fail
        go_ret
        exact ⟨by simp, B8.out⟩
theorem walk (a0 a1 a2 : Int) (w : World) (w0 : (Lit.int .i64 a0).wf = true) (w1 : (Lit.int .i64 a1).wf = true) (w2 : (Lit.int .i64 a2).wf = true) :
    Calls Try.prog 3 #[.int .i64 a0, .int .i64 a1, .int .i64 a2] w fun e w' => e = .returned (.bool true) ∧ Below w.heap.size w w' := by
  by_cases hx : a0 < 1 ∨ a1 < 0 ∨ 50 < a0 ∨ 50 < a1 ∨ 50 < a0 + a1 ∨ a2 < 1 ∨ 50 < a2
  · exact walk_out a0 a1 a2 hx w
  · obtain ⟨n, rfl⟩ : ∃ n : Nat, a0 = n := ⟨a0.toNat, by omega⟩
    obtain ⟨m, rfl⟩ : ∃ n : Nat, a1 = n := ⟨a1.toNat, by omega⟩
    obtain ⟨k, rfl⟩ : ∃ n : Nat, a2 = n := ⟨a2.toNat, by omega⟩
    exact walk_in n m k (by omega) (by omega) (by omega) (by omega) w
end Go.Proofs.Ytmiejokgjbnciaa.comboPascal
