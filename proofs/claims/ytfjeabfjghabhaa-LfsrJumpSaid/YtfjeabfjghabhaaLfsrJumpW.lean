/- The walk of LfsrJump. No condition. -/
import Derived.Test.YtfjeabfjghabhaaLfsrMixW
set_option linter.unusedSimpArgs false
set_option linter.unusedVariables false
namespace Go.Proofs.Ytfjeabfjghabhaa.lfsrJump
open Go.RowKit Go.Proofs.Ytfjeabfjghabhaa
set_option maxHeartbeats 1600000 in
set_option maxRecDepth 20000 in
theorem walk_ok (n t s a b : Nat) (hk : OkT n t) (hs : s < 2 ^ n) (ha : a ≤ 1073741824) (hb : b ≤ 1073741824) (w : World) :
    Calls Try.prog 4 #[.int .i64 n, .int .u32 t, .int .u32 s, .int .i64 a, .int .i64 b] w fun e w' => e = .returned (.bool true) ∧ Below w.heap.size w w' := by
  have hx := it_lt (t := t) hs a
  have HA := Lib.hid (jump_ok n t s a hk hs (by omega))
  have HB := Lib.hid (jump_ok n t (it n t a s) b hk hx (by omega))
  have HC := Lib.hid (jump_ok n t s (a + b) hk hs (by omega))
  rw [← it_add, show b + a = a + b by omega] at HB
  have HP := Lib.hid (period_ok n t s hk hs)
  have hP := hk.two.2.2.2.1
  have HD : Hid (∀ p : Nat, p ≤ 2 ^ n → it n t p s = s → ∀ w, Calls Try.prog 8 #[.int .i64 n, .int .u32 t, .int .u32 (it n t a s : Nat), .int .i64 p] w fun e w' => e = .returned (.tuple #[.int .u32 (it n t a s : Nat), .int .i64 0]) ∧ Below w.heap.size w w') := fun p hp he w => by
    have := jump_ok n t (it n t a s) p hk hx (by omega) w
    rwa [← it_add, show p + a = a + p by omega, it_add, he] at this
  have hw : (2 : Int) ^ n = ((2 ^ n : Nat) : Int) := by rw [Int.natCast_pow]; rfl
  have hn1 := hk.two.1
  have hn2 := hk.two.2.1
  clear hk hs
  obtain ⟨P, hPP⟩ : ∃ P, 2 ^ n = P := ⟨_, rfl⟩
  rw [hPP] at hw hP hx HP HD
  clear hPP
  generalize it n t a s = x at *
  generalize it n t (a + b) s = y at *
  have hab : (a : Int) + (b : Int) = ((a + b : Nat) : Int) := rfl
  have habl : a + b ≤ 2147483648 := by omega
  obtain ⟨c, hc⟩ : ∃ c, a + b = c := ⟨_, rfl⟩
  rw [hc] at hab habl HC
  have f1 : decide ((a : Int) < 0) = false := decide_eq_false (by omega)
  have f2 : decide ((b : Int) < 0) = false := decide_eq_false (by omega)
  have f3 : decide ((1073741824 : Int) < (a : Int)) = false := decide_eq_false (by omega)
  have f4 : decide ((1073741824 : Int) < (b : Int)) = false := decide_eq_false (by omega)
  have hwc : IntKind.i64.wrap (c : Int) = (c : Int) := by rw [IntKind.wrap_i64]; omega
  clear hc
  go_enter Try.func4, Try.ntmps4
  go_wp2_with fail
  refine (alive_any _).mono ?_
  rintro e w1 ⟨rfl, hb⟩
  have H1 := Lib.hid hb
  clear hb
  go_wp2_with fail
  refine (HA.out _).mono ?_
  rintro e w2 ⟨rfl, hb⟩
  have H2 := Lib.hid (H1.out.trans (hb.mono H1.out.size))
  clear hb
  go_wp2_with fail
  refine (HB.out _).mono ?_
  rintro e w3 ⟨rfl, hb⟩
  have H3 := Lib.hid (H2.out.trans (hb.mono H2.out.size))
  clear hb
  go_wp2_with fail
  refine (HC.out _).mono ?_
  rintro e w4 ⟨rfl, hb⟩
  have H4 := Lib.hid (H3.out.trans (hb.mono H3.out.size))
  clear hb
  go_wp2_with fail
  refine (HP.out _).mono ?_
  rintro e w5 ⟨⟨q, rfl⟩, p, rfl, hp1, hp2, hp3, -⟩
  have HDP := Lib.hid (HD.out p hp2 hp3)
  have H5 := Lib.hid (H4.out.drewN q)
  have g1 : decide ((1 : Int) ≤ (p : Int)) = true := decide_eq_true (by omega)
  have g2 : decide ((p : Int) ≤ (P : Int)) = true := decide_eq_true (by omega)
  clear hp3 HD
  go_wp2_with fail
  refine (HDP.out _).mono ?_
  rintro e w6 ⟨rfl, hb⟩
  have H6 := Lib.hid (H5.out.trans (hb.mono H5.out.size))
  clear hb
  go_wp2_with fail
  go_ret
  exact ⟨by simp, H6.out⟩
set_option maxHeartbeats 800000 in
set_option maxRecDepth 20000 in
theorem walk (a0 a1 a2 a3 a4 : Int) (w : World) (w0 : (Lit.int .i64 a0).wf = true) (w1 : (Lit.int .u32 a1).wf = true) (w2 : (Lit.int .u32 a2).wf = true) (w3 : (Lit.int .i64 a3).wf = true) (w4 : (Lit.int .i64 a4).wf = true) :
    Calls Try.prog 4 #[.int .i64 a0, .int .u32 a1, .int .u32 a2, .int .i64 a3, .int .i64 a4] w fun e w' => e = .returned (.bool true) ∧ Below w.heap.size w w' := by
  obtain ⟨t, rfl, ht⟩ := of32 w1
  obtain ⟨s, rfl, hs⟩ := of32 w2
  clear w1 w2 w3
  by_cases k1 : a3 < 0
  · have f1 : decide (a3 < 0) = true := decide_eq_true k1
    go_enter Try.func4, Try.ntmps4
    go_wp2_with fail
    refine (alive_any _).mono ?_
    rintro e w1 ⟨rfl, hb⟩
    have H1 := Lib.hid hb
    clear hb
    go_wp2_with fail
    go_ret
    exact ⟨rfl, H1.out⟩
  · have f1 : decide (a3 < 0) = false := decide_eq_false k1
    by_cases k2 : a4 < 0
    · have f2 : decide (a4 < 0) = true := decide_eq_true k2
      go_enter Try.func4, Try.ntmps4
      go_wp2_with fail
      refine (alive_any _).mono ?_
      rintro e w1 ⟨rfl, hb⟩
      have H1 := Lib.hid hb
      clear hb
      go_wp2_with fail
      go_ret
      exact ⟨rfl, H1.out⟩
    · have f2 : decide (a4 < 0) = false := decide_eq_false k2
      by_cases k3 : 1073741824 < a3
      · have f3 : decide (1073741824 < a3) = true := decide_eq_true k3
        go_enter Try.func4, Try.ntmps4
        go_wp2_with fail
        refine (alive_any _).mono ?_
        rintro e w1 ⟨rfl, hb⟩
        have H1 := Lib.hid hb
        clear hb
        go_wp2_with fail
        go_ret
        exact ⟨rfl, H1.out⟩
      · have f3 : decide (1073741824 < a3) = false := decide_eq_false k3
        by_cases k4 : 1073741824 < a4
        · have f4 : decide (1073741824 < a4) = true := decide_eq_true k4
          go_enter Try.func4, Try.ntmps4
          go_wp2_with fail
          refine (alive_any _).mono ?_
          rintro e w1 ⟨rfl, hb⟩
          have H1 := Lib.hid hb
          clear hb
          go_wp2_with fail
          go_ret
          exact ⟨rfl, H1.out⟩
        · by_cases hA : OkT a0 t ∧ s / 2 ^ a0.toNat = 0
          · obtain ⟨n, rfl⟩ := okn hA.1
            obtain ⟨a, rfl⟩ : ∃ c : Nat, a3 = c := ⟨a3.toNat, by omega⟩
            obtain ⟨b, rfl⟩ : ∃ c : Nat, a4 = c := ⟨a4.toNat, by omega⟩
            exact walk_ok n t s a b hA.1 (lt_of_div hA.2) (by omega) (by omega) w
          · have f4 : decide (1073741824 < a4) = false := decide_eq_false k4
            have HJ := Lib.hid (jump_bad a0 t s a3 hA)
            clear hA
            go_enter Try.func4, Try.ntmps4
            go_wp2_with fail
            refine (alive_any _).mono ?_
            rintro e w1 ⟨rfl, hb⟩
            have H1 := Lib.hid hb
            clear hb
            go_wp2_with fail
            refine (HJ.out _).mono ?_
            rintro e w2 ⟨rfl, rfl⟩
            go_wp2_with fail
            go_ret
            exact ⟨by simp, H1.out⟩
end Go.Proofs.Ytfjeabfjghabhaa.lfsrJump
