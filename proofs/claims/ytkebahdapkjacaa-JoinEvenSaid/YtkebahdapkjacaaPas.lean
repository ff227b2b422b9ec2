/- Binomial coefficients: PASCAL's triangle, and what combo.of reckons. No condition. -/
import Derived.Test.YtkebahdapkjacaaCombo
set_option linter.unusedSimpArgs false
set_option linter.unusedVariables false
namespace Go.Proofs.Ytkebahdapkjacaa
open Go.RowKit
def pas : Nat → Nat → Nat
  | 0, 0 => 1
  | 0, _ + 1 => 0
  | _ + 1, 0 => 1
  | n + 1, k + 1 => pas n k + pas n (k + 1)
theorem pas_le : ∀ n k, pas n k ≤ 2 ^ n := by
  intro n
  induction n with
  | zero => intro k; cases k <;> simp [pas]
  | succ n ih =>
    intro k
    cases k with
    | zero => simp only [pas]; exact Nat.pos_of_ne_zero (by simp)
    | succ k => simp only [pas]; have := ih k; have := ih (k + 1); rw [Nat.pow_succ]; omega
theorem pas_out : ∀ n k, n < k → pas n k = 0 := by
  intro n
  induction n with
  | zero => intro k hk; cases k with
    | zero => omega
    | succ k => rfl
  | succ n ih => intro k hk; cases k with
    | zero => omega
    | succ k => simp only [pas]; rw [ih k (by omega), ih (k + 1) (by omega)]
theorem pas_zero (n : Nat) : pas n 0 = 1 := by cases n <;> rfl
theorem pas_succ (n k : Nat) : pas (n + 1) (k + 1) = pas n k + pas n (k + 1) := rfl
theorem pas_self : ∀ n, pas n n = 1 := by
  intro n
  induction n with
  | zero => rfl
  | succ n ih => rw [pas_succ, ih, pas_out n (n + 1) (by omega)]
theorem pas_pos : ∀ n k, k ≤ n → 0 < pas n k := by
  intro n
  induction n with
  | zero => intro k hk; obtain rfl : k = 0 := by omega
            decide
  | succ n ih => intro k hk; cases k with
    | zero => simp [pas]
    | succ k => rw [pas_succ]; have := ih k (by omega); omega
theorem pas_mono1 (n k : Nat) : pas n k ≤ pas (n + 1) k := by
  cases k with
  | zero => rw [pas_zero, pas_zero]; exact Nat.le_refl _
  | succ k => rw [pas_succ]; omega
theorem pas_mono (n m k : Nat) (h : n ≤ m) : pas n k ≤ pas m k := by
  induction m with
  | zero => obtain rfl : n = 0 := by omega
            exact Nat.le_refl _
  | succ m ih =>
    rcases Nat.lt_or_ge n (m + 1) with h1 | h1
    · exact Nat.le_trans (ih (by omega)) (pas_mono1 m k)
    · obtain rfl : n = m + 1 := by omega
      exact Nat.le_refl _
/-- pas by rows -/
def pasL : Nat → List Nat
  | 0 => [1]
  | n + 1 => List.zipWith (· + ·) (0 :: pasL n) (pasL n ++ [0])
theorem pasL_eq (n : Nat) : pasL n = (List.range (n + 1)).map (pas n) := by
  induction n with
  | zero => rfl
  | succ n ih =>
    rw [pasL, ih]
    apply List.ext_getElem
    · simp
    · intro i h1 h2
      simp only [List.length_map, List.length_range] at h2
      simp only [List.getElem_zipWith, List.getElem_map, List.getElem_range]
      cases i with
      | zero => rw [List.getElem_append_left (by simp)]; simp [pas, pas_zero]
      | succ i =>
        rw [List.getElem_cons_succ]
        simp only [List.getElem_map, List.getElem_range, pas]
        congr 1
        by_cases h : i + 1 < n + 1
        · rw [List.getElem_append_left (by simpa using h)]; simp
        · rw [List.getElem_append_right (by simpa using h), pas_out n (i + 1) (by omega)]; simp
theorem pas_L (n k : Nat) : pas n k = (pasL n).getD k 0 := by
  rw [pasL_eq, List.getD_eq_getElem?_getD, List.getElem?_map]
  by_cases h : k < n + 1
  · rw [List.getElem?_range h]; rfl
  · rw [List.getElem?_eq_none (by simpa using h), pas_out n k (by omega)]; rfl
theorem of_row : ∀ n, n < 61 → (List.range (n + 1)).map (ofN n) = pasL n := by decide +kernel
/-- combo.of reckons PASCAL's triangle. -/
theorem of_pas (n k : Nat) (hn : n ≤ 60) : ofN n k = pas n k := by
  by_cases h : k ≤ n
  · have h1 := of_row n (by omega)
    rw [pasL_eq] at h1
    have h2 := congrArg (fun l => l.getD k 0) h1
    simpa [List.getD_eq_getElem?_getD, List.getElem?_range, show k < n + 1 by omega] using h2
  · rw [ofN, if_pos (by omega), pas_out n k (by omega)]
theorem pas_bd (n k : Nat) (hn : n ≤ 60) : pas n k ≤ 1152921504606846976 := by
  have h1 := pas_le n k
  have h2 := Nat.pow_le_pow_right (show 0 < 2 by omega) hn
  simp at h2; omega
theorem of_p (n k : Nat) (hn : n ≤ 60) (w : World) : Calls Try.prog 22 #[.int .i64 n, .int .i64 k] w fun e w' => e = .returned (.int .i64 (pas n k : Nat)) ∧ Below w.heap.size w w' := by
  have := of_any n k hn w
  rwa [of_pas n k hn] at this
/-- VANDERMONDE's sum. -/
def vsum (n m k : Nat) : Nat → Nat
  | 0 => 0
  | i + 1 => vsum n m k i + pas n i * pas m (k - i)
theorem vsum_shift (n m k : Nat) : ∀ i, i ≤ k + 1 → vsum (n + 1) m (k + 1) (i + 1) = vsum n m (k + 1) (i + 1) + vsum n m k i := by
  intro i
  induction i with
  | zero => intro _; simp [vsum, pas_zero]
  | succ i ih =>
    intro hi
    rw [vsum, ih (by omega), vsum, pas_succ, show k + 1 - (i + 1) = k - i by omega]
    rw [show vsum n m k (i + 1) = vsum n m k i + pas n i * pas m (k - i) from rfl, Nat.add_mul]
    have e : vsum n m (k + 1) (i + 1 + 1) = vsum n m (k + 1) (i + 1) + pas n (i + 1) * pas m (k - i) := by
      rw [show vsum n m (k + 1) (i + 1 + 1) = vsum n m (k + 1) (i + 1) + pas n (i + 1) * pas m (k + 1 - (i + 1)) from rfl, show k + 1 - (i + 1) = k - i by omega]
    have e2 : vsum n m (k + 1) (i + 1) = vsum n m (k + 1) i + pas n i * pas m (k + 1 - i) := rfl
    omega
theorem vsum_zero (m k : Nat) : ∀ i, vsum 0 m k (i + 1) = pas m k := by
  intro i
  induction i with
  | zero => simp [vsum, pas_zero]
  | succ i ih => rw [vsum, ih]; simp [pas]
theorem vandermonde (n m : Nat) : ∀ k, vsum n m k (k + 1) = pas (n + m) k := by
  induction n with
  | zero => intro k; rw [vsum_zero, Nat.zero_add]
  | succ n ih =>
    intro k
    cases k with
    | zero => simp [vsum, pas_zero]
    | succ k =>
      rw [vsum_shift n m k (k + 1) (Nat.le_refl _), ih (k + 1), ih k, show n + 1 + m = (n + m) + 1 by omega, pas_succ]
      omega
theorem vsum_mono (n m k i : Nat) : vsum n m k i ≤ vsum n m k (i + 1) := by rw [vsum]; exact Nat.le_add_right _ _
theorem vsum_le (n m k i d : Nat) : vsum n m k i ≤ vsum n m k (i + d) := by
  induction d with
  | zero => exact Nat.le_refl _
  | succ d ih => exact Nat.le_trans ih (vsum_mono n m k (i + d))
theorem pas_sym (n k : Nat) (h : k ≤ n) : pas n k = pas n (n - k) := by
  have key : ∀ n k, pas (n + k) k = pas (n + k) n := by
    intro n
    induction n with
    | zero => intro k; rw [pas_zero, Nat.zero_add, pas_self]
    | succ n ih =>
      intro k
      induction k with
      | zero => rw [pas_zero, Nat.add_zero, pas_self]
      | succ k ih2 =>
        rw [show n + 1 + (k + 1) = (n + (k + 1)) + 1 by omega, pas_succ, pas_succ, ih (k + 1)]
        have := ih2
        rw [show n + 1 + k = n + (k + 1) by omega] at this
        omega
  have := key (n - k) k
  rwa [show n - k + k = n by omega] at this
end Go.Proofs.Ytkebahdapkjacaa
