/- The plain laws of urns. No condition. -/
import Derived.Test.YtgikbmfajdjaeaaAl
import Derived.Test.YtgikbmfajdjaeaaEOf
set_option linter.unusedSimpArgs false
set_option linter.unusedVariables false
namespace Go.Proofs.Ytgikbmfajdjaeaa
open Go.RowKit
/-- pas by rows -/
def pasL : Nat → List Nat
  | 0 => [1]
  | n + 1 => List.zipWith (· + ·) (0 :: pasL n) (pasL n ++ [0])
theorem pasL_eq (n : Nat) : pasL n = (List.range (n + 1)).map (pas n) := by
  induction n with
  | zero => rfl
  | succ n ih =>
    rw [pasL, ih]
    apply List.ext_getElem
    · simp
    · intro i h1 h2
      simp only [List.length_map, List.length_range] at h2
      simp only [List.getElem_zipWith, List.getElem_map, List.getElem_range]
      cases i with
      | zero => rw [List.getElem_append_left (by simp)]; simp [pas, pas_zero]
      | succ i =>
        rw [List.getElem_cons_succ]
        simp only [List.getElem_map, List.getElem_range, pas]
        congr 1
        by_cases h : i + 1 < n + 1
        · rw [List.getElem_append_left (by simpa using h)]; simp
        · rw [List.getElem_append_right (by simpa using h), pas_out n (i + 1) (by omega)]; simp
theorem pas_L (n k : Nat) : pas n k = (pasL n).getD k 0 := by
  rw [pasL_eq, List.getD_eq_getElem?_getD, List.getElem?_map]
  by_cases h : k < n + 1
  · rw [List.getElem?_range h]; rfl
  · rw [List.getElem?_eq_none (by simpa using h), pas_out n k (by omega)]; rfl
def asum (n k : Nat) : Nat → Int
  | 0 => 0
  | j + 1 => asum n k j + onto n j * (pas k j : Nat)
def asumL (n : Nat) (l : List Nat) : Nat → Int
  | 0 => 0
  | j + 1 => asumL n l j + onto n j * (l.getD j 0 : Nat)
theorem asumL_eq (n k j : Nat) : asum n k j = asumL n (pasL k) j := by
  induction j with
  | zero => rfl
  | succ j ih => rw [asum, asumL, ih, pas_L]
theorem all_L : ∀ n, n < 11 → ∀ k, k < 11 → asumL n (pasL k) (k + 1) = (k ^ n : Nat) := by decide +kernel
theorem all_law (n k : Nat) (hn : n ≤ 10) (hk : k ≤ 10) : asum n k (k + 1) = (k ^ n : Nat) := by
  rw [asumL_eq]; exact all_L n (by omega) k (by omega)
def wsum (n : Nat) : Nat → Int
  | 0 => 0
  | k + 1 => wsum n k + (wr2 (n - k)).1 * (pas n k : Nat)
def wsumL (n : Nat) (l : List Nat) : Nat → Int
  | 0 => 0
  | k + 1 => wsumL n l k + (wr2 (n - k)).1 * (l.getD k 0 : Nat)
theorem wsumL_eq (n k : Nat) : wsum n k = wsumL n (pasL n) k := by
  induction k with
  | zero => rfl
  | succ k ih => rw [wsum, wsumL, ih, pas_L]
theorem wrong_L : ∀ n, n < 19 → wsumL n (pasL n) (n + 1) = (fac n : Nat) := by decide +kernel
theorem wrong_law (n : Nat) (hn : n ≤ 18) : wsum n (n + 1) = (fac n : Nat) := by
  rw [wsumL_eq]; exact wrong_L n (by omega)
def lsum (n : Nat) : Nat → Int
  | 0 => 0
  | k + 1 => lsum n k + bell k * (pas n k : Nat)
def lsumL (l : List Nat) : Nat → Int
  | 0 => 0
  | k + 1 => lsumL l k + bell k * (l.getD k 0 : Nat)
theorem lsumL_eq (n k : Nat) : lsum n k = lsumL (pasL n) k := by
  induction k with
  | zero => rfl
  | succ k ih => rw [lsum, lsumL, ih, pas_L]
theorem bell_L : ∀ n, n < 19 → lsumL (pasL n) (n + 1) = bell (n + 1) := by decide +kernel
theorem bell_law (n : Nat) (hn : n ≤ 18) : lsum n (n + 1) = bell (n + 1) := by
  rw [lsumL_eq]; exact bell_L n (by omega)
theorem spread_law : ∀ n, n < 26 → 1 ≤ n → ∀ k, k < 26 → 1 ≤ k → spread n k = spread n (k - 1) + spread (n - 1) k := by decide +kernel
theorem spread_bd : ∀ n, n < 26 → ∀ k, k < 26 → spread n k ≤ 1000000000000000 := by decide +kernel
end Go.Proofs.Ytgikbmfajdjaeaa
