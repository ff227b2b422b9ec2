/- lfsr: the plain laws of a step. No condition. -/
import Derived.Test.YtfjeabfjghabhaaStep
set_option linter.unusedSimpArgs false
set_option linter.unusedVariables false
namespace Go.Proofs.Ytfjeabfjghabhaa
open Go.RowKit
theorem xor_half (a b : Nat) : (a ^^^ b) / 2 = a / 2 ^^^ b / 2 := by
  apply Nat.eq_of_testBit_eq
  intro i
  rw [← Nat.testBit_succ, Nat.testBit_xor, Nat.testBit_xor, Nat.testBit_succ, Nat.testBit_succ]
theorem xor_odd (a b : Nat) : (a ^^^ b) % 2 = (a % 2 + b % 2) % 2 := by
  have h : (a ^^^ b) % 2 = a % 2 ^^^ b % 2 := Nat.xor_mod_two_pow (n := 1)
  rw [h]
  rcases (show a % 2 = 0 ∨ a % 2 = 1 by omega) with e | e <;> rcases (show b % 2 = 0 ∨ b % 2 = 1 by omega) with e' | e' <;> rw [e, e'] <;> rfl
theorem pop_xor : ∀ k a b : Nat, pop k (a ^^^ b) % 2 = (pop k a + pop k b) % 2
  | 0, a, b => rfl
  | k + 1, a, b => by
    have ih := pop_xor k (a / 2) (b / 2)
    have h := xor_odd a b
    rw [pop, pop, pop, xor_half]
    omega
theorem par_xor (a b : Nat) : par (a ^^^ b) = (par a + par b) % 2 := by
  have := pop_xor 32 a b
  unfold par; omega
theorem par_lt (a : Nat) : par a < 2 := Nat.mod_lt _ (by omega)
theorem pop_zero : ∀ k, pop k 0 = 0
  | 0 => rfl
  | k + 1 => by rw [pop]; simp [pop_zero k]
theorem par_zero : par 0 = 0 := by unfold par; rw [pop_zero]
theorem stp_lt (n t s : Nat) : stp n t s < 2 ^ n := Nat.mod_lt _ (Nat.two_pow_pos n)
theorem tb_even (a b i : Nat) (h : b < 2) : (2 * a + b).testBit i = if i = 0 then decide (b = 1) else a.testBit (i - 1) := by
  cases i with
  | zero => rw [Nat.testBit_zero, if_pos rfl]; exact decide_eq_decide.2 (by omega)
  | succ i => rw [Nat.testBit_succ, if_neg (by omega), show (2 * a + b) / 2 = a by omega]; rfl
theorem stp_xor (n t a b : Nat) : stp n t (a ^^^ b) = stp n t a ^^^ stp n t b := by
  unfold stp
  apply Nat.eq_of_testBit_eq
  intro i
  rw [Nat.testBit_xor, Nat.testBit_mod_two_pow, Nat.testBit_mod_two_pow, Nat.testBit_mod_two_pow, tb_even _ _ _ (par_lt _), tb_even _ _ _ (par_lt _), tb_even _ _ _ (par_lt _), Nat.and_xor_distrib_right, par_xor]
  have h1 := par_lt (a &&& t)
  have h2 := par_lt (b &&& t)
  by_cases hi : i < n
  · by_cases h0 : i = 0
    · simp only [h0, if_true]
      rcases (show par (a &&& t) = 0 ∨ par (a &&& t) = 1 by omega) with e | e <;> rcases (show par (b &&& t) = 0 ∨ par (b &&& t) = 1 by omega) with e' | e' <;> rw [e, e'] <;> simp
    · simp only [h0, if_false, Nat.testBit_xor, hi, decide_true, Bool.true_and]
  · simp [hi]
theorem stp_zero (n t : Nat) : stp n t 0 = 0 := by
  unfold stp; rw [Nat.zero_and, par_zero]; simp
theorem low_xor (s k : Nat) : s % 2 ^ k ^^^ (s / 2 ^ k) * 2 ^ k = s := by
  apply Nat.eq_of_testBit_eq
  intro i
  rw [Nat.testBit_xor, Nat.testBit_mod_two_pow, Nat.mul_comm, Nat.testBit_two_pow_mul]
  by_cases h : i < k
  · simp [h, show ¬ k ≤ i by omega]
  · simp [h, show k ≤ i by omega, Nat.testBit_div_two_pow, show i - k + k = i by omega]
theorem pop_pow : ∀ j k : Nat, j < k → pop k (2 ^ j) = 1
  | 0, k + 1, _ => by rw [pop]; simp [pop_zero]
  | j + 1, k + 1, h => by
    rw [pop, Nat.pow_succ, Nat.mul_mod_left, Nat.mul_div_cancel _ (by omega), pop_pow j k (by omega)]
theorem OkT.top {n t : Nat} (h : OkT n t) : 2 ^ (n - 1) &&& t = 2 ^ (n - 1) := by
  obtain ⟨h1, h2, h3, h4, h5, h6⟩ := h.two
  apply Nat.eq_of_testBit_eq
  intro i
  rw [Nat.testBit_and, Nat.testBit_two_pow]
  by_cases e : n - 1 = i
  · subst e
    have : t.testBit (n - 1) = true := by
      rw [Nat.testBit_eq_decide_div_mod_eq]
      have := h.2.2.2
      simp only [Int.toNat_natCast] at this
      rw [this]; rfl
    rw [this]; simp
  · simp [e]
/-- A step undone. -/
theorem bck_stp {n t s : Nat} (h : OkT n t) (hs : s < 2 ^ n) : bck n t (stp n t s) = s := by
  obtain ⟨h1, h2, h3, h4, h5, h6⟩ := h.two
  have hq : 0 < 2 ^ (n - 1) := Nat.two_pow_pos _
  have hp := par_lt (s &&& t)
  have hlow : stp n t s / 2 = s % 2 ^ (n - 1) := by
    unfold stp
    rw [h3, Nat.mod_mul_right_div_self]
    congr 1; omega
  have hodd : stp n t s % 2 = par (s &&& t) := by
    unfold stp
    rw [h3, Nat.mod_mul_right_mod]; omega
  have htop : s / 2 ^ (n - 1) < 2 := by
    rw [Nat.div_lt_iff_lt_mul hq]; omega
  have hx := low_xor s (n - 1)
  have hdm := Nat.div_add_mod s (2 ^ (n - 1))
  have h9 := par_xor (s % 2 ^ (n - 1) &&& t) ((s / 2 ^ (n - 1)) * 2 ^ (n - 1) &&& t)
  rw [← Nat.and_xor_distrib_right, hx] at h9
  unfold bck
  rw [hlow, hodd]
  have hp2 := par_lt (s % 2 ^ (n - 1) &&& t)
  generalize par (s % 2 ^ (n - 1) &&& t) = p at *
  have e9 : par ((s / 2 ^ (n - 1)) * 2 ^ (n - 1) &&& t) = s / 2 ^ (n - 1) := by
    generalize s / 2 ^ (n - 1) = tp at *
    rcases (show tp = 0 ∨ tp = 1 by omega) with e | e
    · rw [e, Nat.zero_mul, Nat.zero_and, par_zero]
    · rw [e, Nat.one_mul, h.top]
      unfold par
      rw [pop_pow _ _ (by omega)]
  rw [e9] at h9
  generalize s / 2 ^ (n - 1) = tp at *
  generalize s % 2 ^ (n - 1) = lw at *
  rw [h9]
  rcases (show tp = 0 ∨ tp = 1 by omega) with e | e
  · rw [e] at hdm ⊢
    rw [show ((p + 0) % 2 + p) % 2 = 0 by omega]; omega
  · rw [e] at hdm ⊢
    rw [show ((p + 1) % 2 + p) % 2 = 1 by omega]; omega
theorem stp_inj {n t a b : Nat} (h : OkT n t) (ha : a < 2 ^ n) (hb : b < 2 ^ n) (e : stp n t a = stp n t b) : a = b := by
  rw [← bck_stp h ha, ← bck_stp h hb, e]
theorem stp_eq0 {n t a : Nat} (h : OkT n t) (ha : a < 2 ^ n) : stp n t a = 0 ↔ a = 0 := by
  constructor
  · intro e
    exact stp_inj h ha (Nat.two_pow_pos n) (by rw [e, stp_zero])
  · rintro rfl; exact stp_zero n t
end Go.Proofs.Ytfjeabfjghabhaa
