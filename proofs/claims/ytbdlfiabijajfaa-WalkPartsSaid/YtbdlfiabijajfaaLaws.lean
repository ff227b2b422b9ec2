/- Plain laws of the ways, over the bounded range, by the kernel's own reckoning. No condition. -/
import Derived.Test.YtbdlfiabijajfaaAlive
set_option linter.unusedSimpArgs false
set_option linter.unusedVariables false
namespace Go.Proofs.Ytbdlfiabijajfaa
theorem fr_sym : ∀ n, n < 57 → ∀ i : Nat, i < 40 → fr n (-(i : Int)) = fr n (i : Int) := by decide +kernel
theorem ballot : ∀ n, n < 57 → ∀ l, l < 57 → 1 ≤ l → l ≤ n → ab (n - 1) 1 l * n = (fr n l : Int) * l ∧ 0 ≤ ab (n - 1) 1 l * n ∧ ab (n - 1) 1 l * n ≤ 1000000000000000000 := by decide +kernel
def cat (k : Nat) : Int := ab (2 * k) 1 1
def csum (n : Nat) : Nat → Int
  | 0 => 0
  | k + 1 => csum n k + cat k * cat (n - k)
theorem catalan : ∀ n, n < 28 → csum n (n + 1) = cat (n + 1) ∧ cat n * ((n : Int) + 1) = (fr (2 * n) 0 : Int) := by decide +kernel
theorem catalan_bd : ∀ n, n < 28 → ∀ k, k < n + 2 → (0 ≤ csum n k ∧ csum n k ≤ 100000000000000000) := by decide +kernel
theorem catalan_bd2 : ∀ n, n < 28 → ∀ k, k < n + 1 → 0 ≤ cat k * cat (n - k) ∧ cat k * cat (n - k) ≤ 100000000000000000 := by decide +kernel
def rsum (n : Nat) : Nat → Int
  | 0 => 0
  | k + 1 => rsum n k + fi (2 * (k + 1)) * (fr (2 * n - 2 * (k + 1)) 0 : Int)
theorem comes_back : ∀ n, n < 29 → 1 ≤ n → rsum n n = (fr (2 * n) 0 : Int) := by decide +kernel
theorem back_bd : ∀ n, n < 29 → ∀ k, k < n + 1 → 0 ≤ rsum n k ∧ rsum n k ≤ 100000000000000000 := by decide +kernel
theorem back_bd2 : ∀ n, n < 29 → ∀ k, k < n → 0 ≤ fi (2 * (k + 1)) * (fr (2 * n - 2 * (k + 1)) 0 : Int) ∧ fi (2 * (k + 1)) * (fr (2 * n - 2 * (k + 1)) 0 : Int) ≤ 100000000000000000 := by decide +kernel
end Go.Proofs.Ytbdlfiabijajfaa
