/- The walk of JoinCount. No condition. -/
import Derived.Test.YtkebahdapkjacaaAl
import Derived.Test.YtkebahdapkjacaaEOf
set_option linter.unusedSimpArgs false
set_option linter.unusedVariables false
namespace Go.Proofs.Ytkebahdapkjacaa.joinCount
open Go.RowKit Go.Proofs.Ytkebahdapkjacaa
set_option maxHeartbeats 1600000 in
set_option maxRecDepth 20000 in
theorem run (n m k : Nat) (w : World) (hn : n ≤ 25) (hm : m ≤ 25) (hk : k ≤ 50) :
    Calls Try.prog 4 #[.int .i64 n, .int .i64 m, .int .i64 k] w fun e w' => e = .returned (.bool true) ∧ Below w.heap.size w w' := by
  have f1 : decide ((n : Int) < 0) = false := decide_eq_false (by omega)
  have f2 : decide ((m : Int) < 0) = false := decide_eq_false (by omega)
  have f3 : decide (25 < (n : Int)) = false := decide_eq_false (by omega)
  have f4 : decide (25 < (m : Int)) = false := decide_eq_false (by omega)
  have f5 : decide ((k : Int) < 0) = false := decide_eq_false (by omega)
  have f6 : decide (50 < (k : Int)) = false := decide_eq_false (by omega)
  have HC1 : Hid (∀ i, i ≤ k → ∀ w, Calls Try.prog 10 #[.int .i64 n, .int .i64 m, .int .i64 k, .int .i64 i] w fun e w' => e = .returned (.tuple #[.int .i64 (pas n i * pas m (k - i) : Nat), .int .i64 0]) ∧ Below w.heap.size w w') := fun i hi w => count_ok n m k i w hn hm hk hi
  have HC2 : Hid (∀ i : Nat, i ≤ k → ∀ w, Calls Try.prog 10 #[.int .i64 m, .int .i64 n, .int .i64 k, .int .i64 ((k : Int) - i)] w fun e w' => e = .returned (.tuple #[.int .i64 (pas n i * pas m (k - i) : Nat), .int .i64 0]) ∧ Below w.heap.size w w') := fun i hi w => by
    have := count_ok m n k (k - i) w hm hn hk (by omega)
    rw [show k - (k - i) = i by omega, Nat.mul_comm, Int.natCast_sub hi] at this
    exact this
  have HV := Lib.hid (vandermonde n m k)
  have HVS : Hid (∀ i, vsum n m k (i + 1) = vsum n m k i + pas n i * pas m (k - i)) := fun i => rfl
  have HV0 : Hid (vsum n m k 0 = 0) := rfl
  have HVB : Hid (∀ i, i ≤ k + 1 → vsum n m k i ≤ 1125899906842624) := fun i hi => by
    have h1 := vsum_le n m k i (k + 1 - i)
    rw [show i + (k + 1 - i) = k + 1 by omega, vandermonde] at h1
    have h2 := pas_le (n + m) k
    have h3 : 2 ^ (n + m) ≤ 2 ^ 50 := Nat.pow_le_pow_right (by omega) (by omega)
    omega
  have HEO := Lib.hid (EOf_any (n + m) k (by omega))
  have HOUT : Hid (n + m < k → pas (n + m) k = 0) := fun h => pas_out _ _ h
  go_enter Try.func4, Try.ntmps4
  go_wp2_with fail
  refine (alive_any _).mono ?_
  rintro e w1 ⟨rfl, hb⟩
  have H1 := Lib.hid hb
  clear hb
  go_wp2_with fail
  go_loopw [39, 7] (fun iv sv wr => ∃ i s : Nat, i ≤ k + 1 ∧ iv = .int .i64 i ∧ sv = .int .i64 s ∧ s ≤ 1125899906842624 ∧ Hid (s = vsum n m k i) ∧ Hid (Below w.heap.size w wr)) (fun iv _ _ => k + 1 - (intOf iv).toNat)
  case atStart => exact ⟨0, 0, by omega, rfl, rfl, by decide, by rw [HV0.out]; rfl, H1.out⟩
  case round =>
    obtain ⟨i, s, hik, rfl, rfl, hs, HS, HB⟩ := hrel
    by_cases hlt : i ≤ k
    · have q1 : decide ((i : Int) < (k : Int) + 1) = true := decide_eq_true (by omega)
      have hvs := HVS.out i
      rw [← HS.out] at hvs
      have hvb := HVB.out (i + 1) (by omega)
      rw [hvs] at hvb
      have hc1 := Lib.hid (HC1.out i hlt)
      have hc2 := Lib.hid (HC2.out i hlt)
      generalize pas n i * pas m (k - i) = p at *
      have HVX := Lib.hid hvs
      clear hvs
      go_wp2_with fail
      refine (hc1.out _).mono ?_
      rintro e w2 ⟨rfl, hb2⟩
      have H2 := Lib.hid (HB.out.trans (hb2.mono HB.out.size))
      clear hb2
      go_wp2_with fail
      refine (hc2.out _).mono ?_
      rintro e w3 ⟨rfl, hb3⟩
      have H3 := Lib.hid (H2.out.trans (hb3.mono H2.out.size))
      clear hb3
      go_wp2_with fail
      go_roundw
      case rel => exact ⟨i + 1, s + p, by omega, by go_num, by go_num, hvb, HVX.out.symm, H3.out⟩
      case measure => simp [intOf]; omega
    · obtain rfl : i = k + 1 := by omega
      have q1 : decide (((k + 1 : Nat) : Int) < (k : Int) + 1) = false := decide_eq_false (by omega)
      have q2 : decide ((k : Int) + 1 < (k : Int) + 1) = false := decide_eq_false (by omega)
      have hsv : s = pas (n + m) k := HS.out.trans HV.out
      rw [← hsv] at HEO HOUT
      clear hsv
      have HE2 : Hid (∀ w, Calls Try.prog 9 #[.int .i64 ((n : Int) + m), .int .i64 k] w fun e w' => e = .returned (.int .i64 s) ∧ Below w.heap.size w w') := fun w => by
        have := HEO.out w
        rwa [Int.natCast_add] at this
      by_cases ho : n + m < k
      · have q3 : decide ((n : Int) + m < (k : Int)) = true := decide_eq_true (by omega)
        obtain rfl : s = 0 := HOUT.out ho
        go_wp2_with fail
        go_ret
        exact ⟨by simp, HB.out⟩
      · have q3 : decide ((n : Int) + m < (k : Int)) = false := decide_eq_false (by omega)
        go_wp2_with fail
        refine (HE2.out _).mono ?_
        rintro e w2 ⟨rfl, hb2⟩
        have H2 := Lib.hid (HB.out.trans (hb2.mono HB.out.size))
        clear hb2
        go_wp2_with fail
        go_ret
        exact ⟨by simp, H2.out⟩
theorem walk (a0 a1 a2 : Int) (w : World) (w0 : (Lit.int .i64 a0).wf = true) (w1 : (Lit.int .i64 a1).wf = true) (w2 : (Lit.int .i64 a2).wf = true) :
    Calls Try.prog 4 #[.int .i64 a0, .int .i64 a1, .int .i64 a2] w fun e w' => e = .returned (.bool true) ∧ Below w.heap.size w w' := by
  by_cases k1 : 0 ≤ a0 ∧ 0 ≤ a1 ∧ a0 ≤ 25 ∧ a1 ≤ 25 ∧ 0 ≤ a2 ∧ a2 ≤ 50
  · obtain ⟨n, rfl⟩ : ∃ r : Nat, a0 = r := ⟨a0.toNat, by omega⟩
    obtain ⟨m, rfl⟩ : ∃ r : Nat, a1 = r := ⟨a1.toNat, by omega⟩
    obtain ⟨k, rfl⟩ : ∃ r : Nat, a2 = r := ⟨a2.toNat, by omega⟩
    exact run n m k w (by omega) (by omega) (by omega)
  · by_cases c1 : a0 < 0
    · have f1 : decide (a0 < 0) = true := decide_eq_true c1
      clear k1 c1 w0 w1 w2
      all_goals
        go_enter Try.func4, Try.ntmps4
        go_wp2_with fail
        refine (alive_any _).mono ?_
        rintro e w1 ⟨rfl, hb⟩
        have H1 := Lib.hid hb
        clear hb
        go_wp2_with fail
        go_ret
        exact ⟨rfl, H1.out⟩
    · have f1 : decide (a0 < 0) = false := decide_eq_false c1
      have hx : decide (a1 < 0) = true ∨ (decide (a1 < 0) = false ∧ decide (25 < a0) = true) ∨ (decide (a1 < 0) = false ∧ decide (25 < a0) = false ∧ decide (25 < a1) = true) ∨ (decide (a1 < 0) = false ∧ decide (25 < a0) = false ∧ decide (25 < a1) = false ∧ decide (a2 < 0) = true) ∨ (decide (a1 < 0) = false ∧ decide (25 < a0) = false ∧ decide (25 < a1) = false ∧ decide (a2 < 0) = false ∧ decide (50 < a2) = true) := by
        by_cases c2 : a1 < 0
        · exact .inl (decide_eq_true c2)
        · by_cases c3 : 25 < a0
          · exact .inr (.inl ⟨decide_eq_false c2, decide_eq_true c3⟩)
          · by_cases c4 : 25 < a1
            · exact .inr (.inr (.inl ⟨decide_eq_false c2, decide_eq_false c3, decide_eq_true c4⟩))
            · by_cases c5 : a2 < 0
              · exact .inr (.inr (.inr (.inl ⟨decide_eq_false c2, decide_eq_false c3, decide_eq_false c4, decide_eq_true c5⟩)))
              · exact .inr (.inr (.inr (.inr ⟨decide_eq_false c2, decide_eq_false c3, decide_eq_false c4, decide_eq_false c5, decide_eq_true (by omega)⟩)))
      clear k1 c1 w0 w1 w2
      rcases hx with f2 | ⟨f2, f3⟩ | ⟨f2, f3, f4⟩ | ⟨f2, f3, f4, f5⟩ | ⟨f2, f3, f4, f5, f6⟩
      all_goals
        go_enter Try.func4, Try.ntmps4
        go_wp2_with fail
        refine (alive_any _).mono ?_
        rintro e w1 ⟨rfl, hb⟩
        have H1 := Lib.hid hb
        clear hb
        go_wp2_with fail
        go_ret
        exact ⟨rfl, H1.out⟩
end Go.Proofs.Ytkebahdapkjacaa.joinCount
