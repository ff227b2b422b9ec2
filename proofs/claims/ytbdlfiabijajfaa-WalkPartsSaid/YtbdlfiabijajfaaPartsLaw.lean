/- The ways between two walls, by reflection: the recurrence, the walls, the joining of two parts. No condition. -/
import Derived.Test.YtbdlfiabijajfaaLaws
set_option linter.unusedSimpArgs false
set_option linter.unusedVariables false
namespace Go.Proofs.Ytbdlfiabijajfaa
theorem fr_zero (n : Nat) (x : Int) (h : (n : Int) < x ∨ x < -(n : Int)) : fr n x = 0 := by
  unfold fr; rw [if_pos (by omega)]
theorem pascal0 : ∀ n, n < 56 → ∀ i, i < 116 → (fr (n + 1) ((i : Nat) - 58 : Int) : Int) = fr n ((i : Nat) - 58 - 1 : Int) + fr n ((i : Nat) - 58 + 1 : Int) := by decide +kernel
theorem pascal (n : Nat) (hn : n < 56) (x : Int) : (fr (n + 1) x : Int) = fr n (x - 1) + fr n (x + 1) := by
  by_cases h : -58 ≤ x ∧ x < 58
  · have := pascal0 n hn (x + 58).toNat (by omega)
    rw [Int.toNat_of_nonneg (by omega)] at this
    rwa [show x + 58 - 58 = x by omega] at this
  · rw [fr_zero (n + 1) x (by omega), fr_zero n (x - 1) (by omega), fr_zero n (x + 1) (by omega)]; rfl
theorem sym0 : ∀ n, n < 57 → ∀ i : Nat, i < 58 → fr n (-(i : Int)) = fr n (i : Int) := by decide +kernel
theorem fr_neg (n : Nat) (hn : n ≤ 56) (x : Int) : fr n (-x) = fr n x := by
  by_cases h : -57 ≤ x ∧ x ≤ 57
  · rcases Int.le_total 0 x with h1 | h1
    · have := sym0 n (by omega) x.toNat (by omega)
      rwa [Int.toNat_of_nonneg h1] at this
    · have := sym0 n (by omega) (-x).toNat (by omega)
      rw [Int.toNat_of_nonneg (by omega), Int.neg_neg] at this
      exact this.symm
  · rw [fr_zero n x (by omega), fr_zero n (-x) (by omega)]
theorem tm_succ (n : Nat) (hn : n < 56) (f t T k : Int) : tm (n + 1) f t T k = tm n f (t - 1) T k + tm n f (t + 1) T k := by
  unfold tm
  rw [pascal n hn, pascal n hn]
  rw [show t - f + 2 * k * T - 1 = t - 1 - f + 2 * k * T by omega, show t - f + 2 * k * T + 1 = t + 1 - f + 2 * k * T by omega,
    show t + f + 2 * k * T - 1 = t - 1 + f + 2 * k * T by omega, show t + f + 2 * k * T + 1 = t + 1 + f + 2 * k * T by omega]
  omega
theorem bs_succ (n : Nat) (hn : n < 56) (f t T : Int) (j : Nat) : bs (n + 1) f t T j = bs n f (t - 1) T j + bs n f (t + 1) T j := by
  induction j with
  | zero => rfl
  | succ j ih => simp only [bs, ih, tm_succ n hn]; omega
def S (n : Nat) (f t T : Int) : Int := bs n f t T 113
theorem S_succ (n : Nat) (hn : n < 56) (f t T : Int) : S (n + 1) f t T = S n f (t - 1) T + S n f (t + 1) T := bs_succ n hn f t T 113
/-- A sum over a row of whole numbers, from the other end. -/
def sm (g : Nat → Int) : Nat → Int
  | 0 => 0
  | j + 1 => sm g j + g j
theorem sm_congr {g h : Nat → Int} {j : Nat} (e : ∀ i, i < j → g i = h i) : sm g j = sm h j := by
  induction j with
  | zero => rfl
  | succ j ih => simp only [sm, ih (fun i hi => e i (by omega)), e j (by omega)]
theorem sm_front (g : Nat → Int) (j : Nat) : sm g (j + 1) = g 0 + sm (fun i => g (i + 1)) j := by
  induction j with
  | zero => simp [sm]
  | succ j ih => rw [sm, ih, sm]; omega
theorem sm_rev (g : Nat → Int) (j : Nat) : sm (fun i => g (j - 1 - i)) j = sm g j := by
  induction j with
  | zero => rfl
  | succ j ih =>
    rw [sm_front]
    rw [show sm g (j + 1) = sm g j + g j from rfl, ← ih]
    rw [sm_congr (g := fun i => g (j + 1 - 1 - (i + 1))) (h := fun i => g (j - 1 - i)) (fun i hi => by congr 1; omega)]
    rw [show j + 1 - 1 - 0 = j by omega]; omega
theorem sm_sub (g h : Nat → Int) (j : Nat) : sm (fun i => g i - h i) j = sm g j - sm h j := by
  induction j with
  | zero => rfl
  | succ j ih => simp only [sm, ih]; omega
theorem bs_sm (n : Nat) (f t T : Int) (j : Nat) : bs n f t T j = sm (fun i => (fr n (t - f + 2 * ((i : Int) - 56) * T) : Int)) j - sm (fun i => (fr n (t + f + 2 * ((i : Int) - 56) * T) : Int)) j := by
  rw [← sm_sub]
  induction j with
  | zero => rfl
  | succ j ih => simp only [bs, sm, ih, tm]
theorem S_low (n : Nat) (hn : n ≤ 56) (f T : Int) : S n f 0 T = 0 := by
  unfold S
  rw [bs_sm, ← sm_rev (fun i => (fr n (0 + f + 2 * ((i : Int) - 56) * T) : Int))]
  rw [sm_congr (h := fun i => (fr n (0 + f + 2 * (((113 - 1 - i : Nat) : Int) - 56) * T) : Int))]
  · omega
  · intro i hi
    rw [← fr_neg n hn]
    congr 2
    rw [show ((113 - 1 - i : Nat) : Int) - 56 = -((i : Int) - 56) by omega, Int.mul_neg, Int.neg_mul]
    omega
theorem S_high (n : Nat) (hn : n ≤ 56) (f T : Int) (h1 : 0 < f) (h2 : f < T) : S n f T T = 0 := by
  unfold S
  rw [bs_sm]
  rw [show sm (fun i => (fr n (T - f + 2 * ((i : Int) - 56) * T) : Int)) 113 = sm (fun i => (fr n (T - f + 2 * ((i : Int) - 56) * T) : Int)) 112 + (fr n (T - f + 2 * (((112 : Nat) : Int) - 56) * T) : Int) from rfl]
  rw [show sm (fun i => (fr n (T + f + 2 * ((i : Int) - 56) * T) : Int)) 113 = sm (fun i => (fr n (T + f + 2 * ((i : Int) - 56) * T) : Int)) 112 + (fr n (T + f + 2 * (((112 : Nat) : Int) - 56) * T) : Int) from rfl]
  rw [fr_zero n (T - f + 2 * (((112 : Nat) : Int) - 56) * T) (by omega), fr_zero n (T + f + 2 * (((112 : Nat) : Int) - 56) * T) (by omega)]
  rw [← sm_rev (fun i => (fr n (T + f + 2 * ((i : Int) - 56) * T) : Int))]
  rw [sm_congr (h := fun i => (fr n (T + f + 2 * (((112 - 1 - i : Nat) : Int) - 56) * T) : Int))]
  · omega
  · intro i hi
    rw [← fr_neg n hn]
    congr 2
    rw [show ((112 - 1 - i : Nat) : Int) - 56 = -((i : Int) - 56) - 1 by omega]
    simp only [Int.mul_sub, Int.sub_mul, Int.mul_neg, Int.neg_mul]
    omega
end Go.Proofs.Ytbdlfiabijajfaa
