/- lfsr.Right, Step, Back: what they answer. No condition. -/
import Derived.Test.YtfjeabfjghabhaaBits
set_option linter.unusedSimpArgs false
set_option linter.unusedVariables false
namespace Go.Proofs.Ytfjeabfjghabhaa
open Go.RowKit
/-- Whether taps may be. -/
def OkT (n : Int) (t : Nat) : Prop := 1 ≤ n ∧ n ≤ 20 ∧ t / 2 ^ n.toNat = 0 ∧ t / 2 ^ (n.toNat - 1) = 1
instance (n : Int) (t : Nat) : Decidable (OkT n t) := by unfold OkT; infer_instance
theorem div_int (t k : Nat) : (t : Int) / 2 ^ k = ((t / 2 ^ k : Nat) : Int) := by
  rw [Int.natCast_ediv, Int.natCast_pow]; rfl
set_option maxHeartbeats 400000 in
theorem right_any (n : Int) (t : Nat) (w : World) : Calls Try.prog 14 #[.int .i64 n, .int .u32 t] w fun e w' => e = .returned (.bool (decide (OkT n t))) ∧ w' = w := by
  by_cases k1 : 1 ≤ n
  · by_cases k2 : n ≤ 20
    · have d1 := div_int t n.toNat
      have d2 := div_int t (n.toNat - 1)
      have HO : Hid (decide (OkT n t) = (decide (t / 2 ^ n.toNat = 0) && decide (t / 2 ^ (n.toNat - 1) = 1))) := by
        show _ = _
        rw [← Bool.decide_and]
        exact decide_eq_decide.2 ⟨fun h => h.2.2, fun h => ⟨k1, k2, h⟩⟩
      rw [HO.out]
      generalize t / 2 ^ n.toNat = a at *
      generalize t / 2 ^ (n.toNat - 1) = b at *
      by_cases ha : a = 0
      · subst ha
        by_cases hb : b = 1
        · subst hb
          go_enter Try.func14, Try.ntmps14
          go_wp2_with fail
          go_ret
          exact ⟨rfl, rfl⟩
        · have f1 : ((b : Int) == 1) = false := by rw [beq_eq_false_iff_ne]; omega
          have f2 : decide (b = 1) = false := decide_eq_false hb
          go_enter Try.func14, Try.ntmps14
          go_wp2_with fail
          go_ret
          exact ⟨by simp [f2], rfl⟩
      · have f1 : ((a : Int) == 0) = false := by rw [beq_eq_false_iff_ne]; omega
        have f2 : decide (a = 0) = false := decide_eq_false ha
        go_enter Try.func14, Try.ntmps14
        go_wp2_with fail
        go_ret
        exact ⟨by simp [f2], rfl⟩
    · have HO : decide (OkT n t) = false := decide_eq_false (fun h => k2 h.2.1)
      rw [HO]
      have f1 : decide (n ≤ 20) = false := decide_eq_false k2
      clear HO
      go_enter Try.func14, Try.ntmps14
      go_wp2_with fail
      go_ret
      exact ⟨rfl, rfl⟩
  · have HO : decide (OkT n t) = false := decide_eq_false (fun h => k1 h.1)
    rw [HO]
    have f1 : decide (1 ≤ n) = false := decide_eq_false k1
    clear HO
    go_enter Try.func14, Try.ntmps14
    go_wp2_with fail
    go_ret
    exact ⟨rfl, rfl⟩
/-- The bit that is tapped. -/
def par (x : Nat) : Nat := pop 32 x % 2
/-- The next state. -/
def stp (n t s : Nat) : Nat := (2 * s + par (s &&& t)) % 2 ^ n
/-- The state ahead of one. -/
def bck (n t s : Nat) : Nat := s / 2 + (s % 2 + par (s / 2 &&& t)) % 2 * 2 ^ (n - 1)
theorem step_bad (n : Int) (t s : Nat) (h : ¬ (OkT n t ∧ s / 2 ^ n.toNat = 0)) (w : World) : Calls Try.prog 11 #[.int .i64 n, .int .u32 t, .int .u32 s] w fun e w' => e = .returned (.tuple #[.int .u32 0, .int .i64 1]) ∧ w' = w := by
  by_cases hk : OkT n t
  · have hs : s / 2 ^ n.toNat ≠ 0 := fun e => h ⟨hk, e⟩
    have hn : 1 ≤ n := hk.1
    have hn2 : n ≤ 20 := hk.2.1
    have d1 := div_int s n.toNat
    have HR := Lib.hid (right_any n t)
    rw [decide_eq_true hk] at HR
    generalize s / 2 ^ n.toNat = a at *
    have f1 : ((a : Int) == 0) = false := by rw [beq_eq_false_iff_ne]; omega
    clear h hk
    go_enter Try.func11, Try.ntmps11
    go_wp2_with fail
    refine (HR.out _).mono ?_
    rintro e w1 ⟨rfl, rfl⟩
    go_wp2_with fail
    go_ret2
    exact ⟨rfl, rfl⟩
  · have HR := Lib.hid (right_any n t)
    rw [decide_eq_false hk] at HR
    clear h hk
    go_enter Try.func11, Try.ntmps11
    go_wp2_with fail
    refine (HR.out _).mono ?_
    rintro e w1 ⟨rfl, rfl⟩
    go_wp2_with fail
    go_ret2
    exact ⟨rfl, rfl⟩
theorem OkT.two {n t : Nat} (h : OkT n t) : 1 ≤ n ∧ n ≤ 20 ∧ 2 ^ n = 2 * 2 ^ (n - 1) ∧ 2 ^ n ≤ 1048576 ∧ t < 2 ^ n ∧ 2 ^ (n - 1) ≤ t := by
  obtain ⟨h1, h2, h3, h4⟩ := h
  simp only [Int.toNat_natCast] at h3 h4
  have e : 2 ^ n = 2 * 2 ^ (n - 1) := by
    rw [← Nat.pow_succ']; congr 1; omega
  have hp : 0 < 2 ^ n := Nat.two_pow_pos n
  have hq : 0 < 2 ^ (n - 1) := Nat.two_pow_pos _
  refine ⟨by omega, by omega, e, ?_, ?_, ?_⟩
  · have := Nat.pow_le_pow_right (show 0 < 2 by omega) (show n ≤ 20 by omega)
    exact this
  · rcases Nat.lt_or_ge t (2 ^ n) with h | h
    · exact h
    · have := Nat.div_pos h hp; omega
  · rcases Nat.lt_or_ge t (2 ^ (n - 1)) with h | h
    · rw [Nat.div_eq_of_lt h] at h4; omega
    · exact h
theorem or_even (a b : Nat) (h : b < 2) : 2 * a ||| b = 2 * a + b := by
  apply Nat.eq_of_testBit_eq
  intro i
  rw [Nat.testBit_or]
  cases i with
  | zero => simp only [Nat.testBit_zero]; rcases (show b = 0 ∨ b = 1 by omega) with rfl | rfl <;> simp <;> omega
  | succ i => rw [Nat.testBit_succ, Nat.testBit_succ, Nat.testBit_succ, show 2 * a / 2 = a by omega, show b / 2 = 0 by omega, show (2 * a + b) / 2 = a by omega]; simp
theorem and1_i64 : ∀ c : Nat, c ≤ 32 → bits .and .i64 (c : Int) 1 = ((c % 2 : Nat) : Int) := by
  have h : ∀ c : Fin 33, bits .and .i64 (c.val : Int) 1 = ((c.val % 2 : Nat) : Int) := by decide +kernel
  exact fun c hc => h ⟨c, by omega⟩
set_option maxHeartbeats 400000 in
set_option maxRecDepth 20000 in
theorem step_ok (n t s : Nat) (hk : OkT n t) (hs : s < 2 ^ n) (w : World) : Calls Try.prog 11 #[.int .i64 n, .int .u32 t, .int .u32 s] w fun e w' => e = .returned (.tuple #[.int .u32 (stp n t s : Nat), .int .i64 0]) ∧ ∃ q, w' = w.drewN q := by
  obtain ⟨hn1, hn2, h2, hP, ht, -⟩ := hk.two
  have HR := Lib.hid (right_any n t)
  rw [decide_eq_true hk] at HR
  have d1 : (s : Int) / 2 ^ n = 0 := by rw [div_int, Nat.div_eq_of_lt hs]; rfl
  have hw : (2 : Int) ^ n = ((2 ^ n : Nat) : Int) := by rw [Int.natCast_pow]; rfl
  have a1 := and32 s t (by omega) (by omega)
  have HSTP : Hid (stp n t s = ((2 * s) ||| (pop 32 (s &&& t) % 2)) &&& (2 ^ n - 1)) := by
    show _ = _
    rw [or_even _ _ (by omega), Nat.and_two_pow_sub_one_eq_mod]; rfl
  rw [HSTP.out]
  have hx : s &&& t < 4294967296 := by have := Nat.and_le_left (n := s) (m := t); omega
  have HP := Lib.hid (fun w => ones32 (s &&& t) hx w)
  have hpl := pop_le 32 (s &&& t)
  have a2 := and1_i64 _ hpl
  have a3 := or32 (2 * s) (pop 32 (s &&& t) % 2) (by omega) (by omega)
  have hy : (2 * s) ||| (pop 32 (s &&& t) % 2) < 4294967296 := by rw [or_even _ _ (by omega)]; omega
  have a4 := and32 _ (2 ^ n - 1) hy (by omega)
  generalize s &&& t = x at *
  generalize pop 32 x = c at *
  have hm : c % 2 < 2 := Nat.mod_lt _ (by omega)
  generalize c % 2 = m at *
  generalize 2 * s ||| m = y at *
  generalize y &&& (2 ^ n - 1) = z at *
  obtain ⟨P, hPP⟩ : ∃ P, 2 ^ n = P := ⟨_, rfl⟩
  rw [hPP] at hw hP hs ht a4
  rw [hw] at d1
  rw [show ((P - 1 : Nat) : Int) = (P : Int) - 1 by omega] at a4
  rw [show ((2 * s : Nat) : Int) = (s : Int) * 2 by omega] at a3
  clear hk h2 hPP
  go_enter Try.func11, Try.ntmps11
  go_wp2_with fail
  refine (HR.out _).mono ?_
  rintro e w1 ⟨rfl, rfl⟩
  go_wp2_with fail
  refine (HP.out _).mono ?_
  rintro e w2 ⟨rfl, q, rfl⟩
  go_wp2_with fail
  go_ret2
  exact ⟨rfl, _, rfl⟩
theorem or_low (a b k : Nat) (h : a < 2 ^ k) : a ||| b * 2 ^ k = a + b * 2 ^ k := by
  have := Nat.two_pow_add_eq_or_of_lt h b
  rw [Nat.or_comm, Nat.mul_comm b, ← this]; omega
set_option maxHeartbeats 400000 in
set_option maxRecDepth 20000 in
theorem back_ok (n t s : Nat) (hk : OkT n t) (hs : s < 2 ^ n) (w : World) : Calls Try.prog 12 #[.int .i64 n, .int .u32 t, .int .u32 s] w fun e w' => e = .returned (.tuple #[.int .u32 (bck n t s : Nat), .int .i64 0]) ∧ ∃ q, w' = w.drewN q := by
  obtain ⟨hn1, hn2, h2, hP, ht, -⟩ := hk.two
  have HR := Lib.hid (right_any n t)
  rw [decide_eq_true hk] at HR
  have d1 : (s : Int) / 2 ^ n = 0 := by rw [div_int, Nat.div_eq_of_lt hs]; rfl
  have hw : (2 : Int) ^ n = ((2 ^ n : Nat) : Int) := by rw [Int.natCast_pow]; rfl
  have hv : (2 : Int) ^ (n - 1) = ((2 ^ (n - 1) : Nat) : Int) := by rw [Int.natCast_pow]; rfl
  have a0 : bits .and .u32 (s : Int) 1 = ((s % 2 : Nat) : Int) := by
    have := and32 s 1 (by omega) (by omega)
    rwa [Nat.and_one_is_mod] at this
  have hx : s / 2 &&& t < 4294967296 := by have := Nat.and_le_left (n := s / 2) (m := t); omega
  have a1 := and32 (s / 2) t (by omega) (by omega)
  have HP := Lib.hid (fun w => ones32 (s / 2 &&& t) hx w)
  have hpl := pop_le 32 (s / 2 &&& t)
  have a2 := and1_i64 _ hpl
  have a3 : bits .xor .u32 ((s % 2 : Nat) : Int) ((pop 32 (s / 2 &&& t) % 2 : Nat) : Int) = (((s % 2 + pop 32 (s / 2 &&& t) % 2) % 2 : Nat) : Int) := by
    rw [xor32 _ _ (by omega) (by omega)]
    rcases (show s % 2 = 0 ∨ s % 2 = 1 by omega) with e | e <;> rcases (show pop 32 (s / 2 &&& t) % 2 = 0 ∨ pop 32 (s / 2 &&& t) % 2 = 1 by omega) with e' | e' <;> rw [e, e'] <;> rfl
  have hb : (s % 2 + pop 32 (s / 2 &&& t) % 2) % 2 < 2 := Nat.mod_lt _ (by omega)
  have hB : bck n t s = s / 2 ||| (s % 2 + pop 32 (s / 2 &&& t) % 2) % 2 * 2 ^ (n - 1) := by
    rw [or_low _ _ _ (by omega)]; rfl
  rw [hB]
  clear hB
  have hm : pop 32 (s / 2 &&& t) % 2 < 2 := Nat.mod_lt _ (by omega)
  have hk2 : s % 2 < 2 := Nat.mod_lt _ (by omega)
  generalize (s % 2 + pop 32 (s / 2 &&& t) % 2) % 2 = b at *
  generalize s / 2 &&& t = x at *
  generalize pop 32 x = c at *
  generalize c % 2 = m at *
  generalize s % 2 = k at *
  have hr : b * 2 ^ (n - 1) ≤ 1 * 2 ^ (n - 1) := Nat.mul_le_mul (by omega) (Nat.le_refl _)
  have hpr : (b : Int) * ((2 ^ (n - 1) : Nat) : Int) = ((b * 2 ^ (n - 1) : Nat) : Int) := rfl
  have a5 := or32 (s / 2) (b * 2 ^ (n - 1)) (by omega) (by omega)
  generalize s / 2 ||| b * 2 ^ (n - 1) = z at *
  generalize b * 2 ^ (n - 1) = r at *
  obtain ⟨P, hPP⟩ : ∃ P, 2 ^ n = P := ⟨_, rfl⟩
  obtain ⟨Q, hQQ⟩ : ∃ Q, 2 ^ (n - 1) = Q := ⟨_, rfl⟩
  rw [hPP] at hw hP hs ht h2
  rw [hQQ] at hv hpr hr h2
  rw [hw] at d1
  rw [show ((s / 2 : Nat) : Int) = (s : Int) / 2 by omega] at a1 a5
  have hQ : Q ≤ 1048576 := by omega
  clear hk hPP hQQ h2
  go_enter Try.func12, Try.ntmps12
  go_wp2_with fail
  refine (HR.out _).mono ?_
  rintro e w1 ⟨rfl, rfl⟩
  go_wp2_with fail
  refine (HP.out _).mono ?_
  rintro e w2 ⟨rfl, q, rfl⟩
  go_wp2_with fail
  go_ret2
  exact ⟨rfl, _, rfl⟩
end Go.Proofs.Ytfjeabfjghabhaa
