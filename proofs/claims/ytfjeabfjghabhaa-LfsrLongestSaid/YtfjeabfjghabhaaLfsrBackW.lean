/- The walk of LfsrBack. No condition. -/
import Derived.Test.YtfjeabfjghabhaaAl
set_option linter.unusedSimpArgs false
set_option linter.unusedVariables false
namespace Go.Proofs.Ytfjeabfjghabhaa
open Go.RowKit
theorem of32 {a : Int} (h : (Lit.int .u32 a).wf = true) : ∃ m : Nat, a = m ∧ m < 4294967296 := by
  have : 0 ≤ a ∧ a ≤ 4294967295 := by have := bounds_u32 h; omega
  exact ⟨a.toNat, by omega, by omega⟩
theorem okn {n : Int} {t : Nat} (h : OkT n t) : ∃ m : Nat, n = m := ⟨n.toNat, by have := h.1; omega⟩
theorem lt_of_div {a n : Nat} (h : a / 2 ^ n = 0) : a < 2 ^ n := by
  rcases Nat.lt_or_ge a (2 ^ n) with h1 | h1
  · exact h1
  · have := Nat.div_pos h1 (Nat.two_pow_pos n); omega
end Go.Proofs.Ytfjeabfjghabhaa
namespace Go.Proofs.Ytfjeabfjghabhaa.lfsrBack
open Go.RowKit Go.Proofs.Ytfjeabfjghabhaa
set_option maxHeartbeats 800000 in
set_option maxRecDepth 20000 in
theorem walk_ok (n t a b : Nat) (hk : OkT n t) (ha : a < 2 ^ n) (hb : b < 2 ^ n) (w : World) :
    Calls Try.prog 6 #[.int .i64 n, .int .u32 t, .int .u32 a, .int .u32 b] w fun e w' => e = .returned (.bool true) ∧ Below w.heap.size w w' := by
  have HA := Lib.hid (step_ok n t a hk ha)
  have HB := Lib.hid (step_ok n t b hk hb)
  have HC := Lib.hid (back_ok n t (stp n t a) hk (stp_lt n t a))
  rw [bck_stp hk ha] at HC
  have HE : Hid (stp n t a = stp n t b ↔ a = b) := ⟨stp_inj hk ha hb, fun e => by rw [e]⟩
  have HZ := Lib.hid (stp_eq0 hk ha)
  have HAB : Hid (a = b → stp n t a = stp n t b) := fun e => by rw [e]
  generalize stp n t a = x at *
  generalize stp n t b = y at *
  clear hk ha hb HAB
  have f1 : (((x : Int) == (y : Int)) == ((a : Int) == (b : Int))) = true := by
    by_cases e : a = b
    · rw [HE.out.2 e, e]; simp
    · have e2 : ¬ x = y := fun h => e (HE.out.1 h)
      rw [show ((x : Int) == (y : Int)) = false by rw [beq_eq_false_iff_ne]; omega, show ((a : Int) == (b : Int)) = false by rw [beq_eq_false_iff_ne]; omega]; rfl
  have f2 : (((x : Int) == 0) == ((a : Int) == 0)) = true := by
    by_cases e : a = 0
    · rw [HZ.out.2 e, e]; rfl
    · have e2 : ¬ x = 0 := fun h => e (HZ.out.1 h)
      rw [show ((x : Int) == 0) = false by rw [beq_eq_false_iff_ne]; omega, show ((a : Int) == 0) = false by rw [beq_eq_false_iff_ne]; omega]; rfl
  clear HE HZ
  have F1 := Lib.hid f1
  have F2 := Lib.hid f2
  obtain ⟨b1, hb1⟩ : ∃ c, ((x : Int) == (y : Int)) = c := ⟨_, rfl⟩
  obtain ⟨b2, hb2⟩ : ∃ c, ((a : Int) == (b : Int)) = c := ⟨_, rfl⟩
  obtain ⟨b3, hb3⟩ : ∃ c, ((x : Int) == 0) = c := ⟨_, rfl⟩
  obtain ⟨b4, hb4⟩ : ∃ c, ((a : Int) == 0) = c := ⟨_, rfl⟩
  rw [hb1, hb2] at f1
  rw [hb3, hb4] at f2
  obtain rfl : b1 = b2 := by simpa using f1
  obtain rfl : b3 = b4 := by simpa using f2
  clear F1 F2 f1 f2
  go_enter Try.func6, Try.ntmps6
  go_wp2_with fail
  refine (alive_any _).mono ?_
  rintro e w1 ⟨rfl, hb⟩
  have H1 := Lib.hid hb
  clear hb
  go_wp2_with fail
  refine (HA.out _).mono ?_
  rintro e w2 ⟨rfl, q2, rfl⟩
  go_wp2_with fail
  refine (HB.out _).mono ?_
  rintro e w2 ⟨rfl, q3, rfl⟩
  go_wp2_with fail
  refine (HC.out _).mono ?_
  rintro e w2 ⟨rfl, q4, rfl⟩
  go_wp2_with fail
  go_ret
  exact ⟨by simp, H1.out.drewN _⟩
set_option maxHeartbeats 800000 in
set_option maxRecDepth 20000 in
theorem walk (a0 a1 a2 a3 : Int) (w : World) (w0 : (Lit.int .i64 a0).wf = true) (w1 : (Lit.int .u32 a1).wf = true) (w2 : (Lit.int .u32 a2).wf = true) (w3 : (Lit.int .u32 a3).wf = true) :
    Calls Try.prog 6 #[.int .i64 a0, .int .u32 a1, .int .u32 a2, .int .u32 a3] w fun e w' => e = .returned (.bool true) ∧ Below w.heap.size w w' := by
  obtain ⟨t, rfl, ht⟩ := of32 w1
  obtain ⟨a, rfl, ha⟩ := of32 w2
  obtain ⟨b, rfl, hb⟩ := of32 w3
  clear w1 w2 w3
  by_cases hA : OkT a0 t ∧ a / 2 ^ a0.toNat = 0
  · obtain ⟨n, rfl⟩ := okn hA.1
    have hA2 := lt_of_div hA.2
    by_cases hB : OkT (n : Int) t ∧ b / 2 ^ (n : Int).toNat = 0
    · exact walk_ok n t a b hA.1 hA2 (lt_of_div hB.2) w
    · have HA := Lib.hid (step_ok n t a hA.1 hA2)
      have HB := Lib.hid (step_bad n t b hB)
      generalize stp n t a = x at *
      clear hA hA2 hB
      go_enter Try.func6, Try.ntmps6
      go_wp2_with fail
      refine (alive_any _).mono ?_
      rintro e w1 ⟨rfl, hb⟩
      have H1 := Lib.hid hb
      clear hb
      go_wp2_with fail
      refine (HA.out _).mono ?_
      rintro e w2 ⟨rfl, q2, rfl⟩
      go_wp2_with fail
      refine (HB.out _).mono ?_
      rintro e w2 ⟨rfl, rfl⟩
      go_wp2_with fail
      go_ret
      exact ⟨by simp, H1.out.drewN _⟩
  · have HA := Lib.hid (step_bad a0 t a hA)
    have HB : Hid (∀ w, Calls Try.prog 11 #[.int .i64 a0, .int .u32 t, .int .u32 b] w fun e w' => (∃ y f : Nat, e = .returned (.tuple #[.int .u32 y, .int .i64 f])) ∧ ∃ q, w' = w.drewN q) := fun w => by
      by_cases hB : OkT a0 t ∧ b / 2 ^ a0.toNat = 0
      · obtain ⟨n, rfl⟩ := okn hB.1
        refine (step_ok n t b hB.1 (lt_of_div hB.2) w).mono ?_
        rintro e w' ⟨rfl, q⟩
        exact ⟨⟨_, 0, rfl⟩, q⟩
      · refine (step_bad a0 t b hB w).mono ?_
        rintro e w' ⟨rfl, rfl⟩
        exact ⟨⟨0, 1, rfl⟩, 0, rfl⟩
    clear hA
    go_enter Try.func6, Try.ntmps6
    go_wp2_with fail
    refine (alive_any _).mono ?_
    rintro e w1 ⟨rfl, hb⟩
    have H1 := Lib.hid hb
    clear hb
    go_wp2_with fail
    refine (HA.out _).mono ?_
    rintro e w2 ⟨rfl, rfl⟩
    go_wp2_with fail
    refine (HB.out _).mono ?_
    rintro e w2 ⟨⟨y, f, rfl⟩, q, rfl⟩
    go_wp2_with fail
    go_ret
    exact ⟨by simp, H1.out.drewN _⟩
end Go.Proofs.Ytfjeabfjghabhaa.lfsrBack
