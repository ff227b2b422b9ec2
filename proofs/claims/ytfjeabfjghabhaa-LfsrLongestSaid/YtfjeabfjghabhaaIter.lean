/- lfsr: many steps, and a matrix over bits. No condition. -/
import Derived.Test.YtfjeabfjghabhaaLin
set_option linter.unusedSimpArgs false
set_option linter.unusedVariables false
namespace Go.Proofs.Ytfjeabfjghabhaa
open Go.RowKit
/-- So many steps. -/
def it (n t : Nat) : Nat → Nat → Nat
  | 0, s => s
  | k + 1, s => stp n t (it n t k s)
theorem it_add (n t : Nat) : ∀ a b s, it n t (a + b) s = it n t a (it n t b s)
  | 0, b, s => by rw [Nat.zero_add]; rfl
  | a + 1, b, s => by rw [show a + 1 + b = (a + b) + 1 by omega, it, it, it_add n t a b s]
theorem it_lt {n t s : Nat} (hs : s < 2 ^ n) : ∀ k, it n t k s < 2 ^ n
  | 0 => hs
  | k + 1 => stp_lt _ _ _
theorem it_xor (n t : Nat) : ∀ k a b, it n t k (a ^^^ b) = it n t k a ^^^ it n t k b
  | 0, a, b => rfl
  | k + 1, a, b => by rw [it, it, it, it_xor n t k, stp_xor]
theorem it_zero (n t : Nat) : ∀ k, it n t k 0 = 0
  | 0 => rfl
  | k + 1 => by rw [it, it_zero n t k, stp_zero]
theorem it_inj {n t a b : Nat} (h : OkT n t) (ha : a < 2 ^ n) (hb : b < 2 ^ n) (k : Nat) (e : it n t k a = it n t k b) : a = b := by
  induction k with
  | zero => exact e
  | succ k ih =>
    rw [it, it] at e
    exact ih (stp_inj h (it_lt ha k) (it_lt hb k) e)
/-- The columns whose bits are set, mixed. -/
def app (f : Nat → Nat) (s : Nat) : Nat → Nat
  | 0 => 0
  | k + 1 => if s / 2 ^ k % 2 = 1 then app f s k ^^^ f k else app f s k
theorem app_lt {f : Nat → Nat} {s P : Nat} : ∀ {k : Nat}, (∀ i, i < k → f i < 2 ^ P) → app f s k < 2 ^ P
  | 0, _ => Nat.two_pow_pos P
  | k + 1, h => by
    rw [app]
    have := app_lt (s := s) (k := k) (fun i hi => h i (by omega))
    split
    · exact Nat.xor_lt_two_pow this (h k (by omega))
    · exact this
theorem app_congr {f g : Nat → Nat} {s : Nat} : ∀ {k : Nat}, (∀ i, i < k → f i = g i) → app f s k = app g s k
  | 0, _ => rfl
  | k + 1, h => by rw [app, app, app_congr (fun i hi => h i (by omega)), h k (by omega)]
theorem mod_next (s k : Nat) : s % 2 ^ (k + 1) = if s / 2 ^ k % 2 = 1 then s % 2 ^ k ^^^ 2 ^ k else s % 2 ^ k := by
  apply Nat.eq_of_testBit_eq
  intro i
  have hb : (s / 2 ^ k % 2 = 1) ↔ s.testBit k = true := by rw [Nat.testBit_eq_decide_div_mod_eq, decide_eq_true_iff]
  by_cases h : s / 2 ^ k % 2 = 1
  · rw [if_pos h, Nat.testBit_xor, Nat.testBit_mod_two_pow, Nat.testBit_mod_two_pow, Nat.testBit_two_pow]
    have h1 := hb.1 h
    by_cases e : i = k
    · subst e; simp [h1]
    · by_cases e2 : i < k
      · simp [e2, show i < k + 1 by omega, Ne.symm e]
      · simp [e2, show ¬ i < k + 1 by omega, Ne.symm e]
  · rw [if_neg h, Nat.testBit_mod_two_pow, Nat.testBit_mod_two_pow]
    have h1 : s.testBit k = false := by
      cases e : s.testBit k with
      | false => rfl
      | true => exact absurd (hb.2 e) h
    by_cases e : i = k
    · subst e; simp [h1]
    · by_cases e2 : i < k
      · simp [e2, show i < k + 1 by omega]
      · simp [e2, show ¬ i < k + 1 by omega]
theorem app_lin {F : Nat → Nat} (h0 : F 0 = 0) (hx : ∀ a b, F (a ^^^ b) = F a ^^^ F b) (s : Nat) : ∀ k, app (fun i => F (2 ^ i)) s k = F (s % 2 ^ k)
  | 0 => by rw [app, Nat.pow_zero, Nat.mod_one, h0]
  | k + 1 => by
    rw [app, app_lin h0 hx s k, mod_next]
    split
    · rw [hx]
    · rfl
/-- The matrix of so many steps does so many steps. -/
theorem app_it (n t m s : Nat) (hs : s < 2 ^ n) : app (fun i => it n t m (2 ^ i)) s n = it n t m s := by
  rw [app_lin (F := it n t m) (it_zero n t m) (it_xor n t m), Nat.mod_eq_of_lt hs]
theorem pigeon : ∀ (m : Nat) (g : Nat → Nat), (∀ i, i ≤ m → g i < m) → ∃ i j, i < j ∧ j ≤ m ∧ g i = g j
  | 0, g, h => absurd (h 0 (Nat.le_refl _)) (Nat.not_lt_zero _)
  | m + 1, g, h => by
    by_cases hd : ∃ i, i < m + 1 ∧ g i = g (m + 1)
    · obtain ⟨i, hi, e⟩ := hd
      exact ⟨i, m + 1, hi, Nat.le_refl _, e⟩
    · have hne : ∀ i, i < m + 1 → g i ≠ g (m + 1) := fun i hi e => hd ⟨i, hi, e⟩
      obtain ⟨i, j, hij, hj, e⟩ := pigeon m (fun i => if g i < g (m + 1) then g i else g i - 1) (fun i hi => by
        have h1 := h i (by omega)
        have h2 := h (m + 1) (Nat.le_refl _)
        have h3 := hne i (by omega)
        show (if g i < g (m + 1) then g i else g i - 1) < m
        split <;> omega)
      refine ⟨i, j, hij, by omega, ?_⟩
      have h3 := hne i (by omega)
      have h4 := hne j (by omega)
      have e : (if g i < g (m + 1) then g i else g i - 1) = (if g j < g (m + 1) then g j else g j - 1) := e
      split at e <;> split at e <;> omega
/-- A state comes again. -/
theorem again {n t s : Nat} (h : OkT n t) (hs : s < 2 ^ n) : ∃ p, 1 ≤ p ∧ p ≤ 2 ^ n ∧ it n t p s = s := by
  obtain ⟨i, j, hij, hj, e⟩ := pigeon (2 ^ n) (fun k => it n t k s) (fun k _ => it_lt hs k)
  refine ⟨j - i, by omega, by omega, ?_⟩
  have e : it n t i s = it n t j s := e
  rw [show j = i + (j - i) by omega, it_add] at e
  exact (it_inj h hs (it_lt hs _) i e).symm
end Go.Proofs.Ytfjeabfjghabhaa
