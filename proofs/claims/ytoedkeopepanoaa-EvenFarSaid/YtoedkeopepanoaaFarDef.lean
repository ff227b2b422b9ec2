/- What Far computes, in plain words. No condition. -/
import Derived.Test.YtoedkeopepanoaaDef
import Derived.Test.YtoedkeopepanoaaGen
set_option linter.unusedSimpArgs false
set_option linter.unusedVariables false
namespace Go.Proofs.Ytoedkeopepanoaa
/-- The first points. -/
def pts (b d many : Nat) : List Int := (List.range many).map fun n => ((ro b (n % b ^ d) d : Nat) : Int)
theorem pts_len (b d many : Nat) : (pts b d many).length = many := by simp [pts]
theorem pts_get (b d many n : Nat) (h : n < many) : (pts b d many).getD n 0 = ((ro b (n % b ^ d) d : Nat) : Int) := by
  simp [pts, List.getD_eq_getElem?_getD, h]
/-- How many of them lie below k. -/
def Bl (l : List Int) : Nat → Int
  | 0 => 0
  | k + 1 => Bl l k + (l.count (k : Int) : Int)
def dif (l : List Int) (p : Nat) (k : Nat) : Int := Bl l (k + 1) * p - (l.length : Int) * (k + 1)
def most (l : List Int) (p : Nat) : Nat → Int
  | 0 => 0
  | k + 1 => max (max (most l p k) (dif l p k)) (-(dif l p k))
def inB (k : Nat) (x : Int) : Bool := decide (0 ≤ x ∧ x < (k : Int))
theorem Bl_bd (l : List Int) (k : Nat) : Bl l k = (l.countP (inB k) : Int) := by
  induction k with
  | zero =>
    simp only [Bl]
    rw [show l.countP (inB 0) = 0 by rw [List.countP_eq_zero]; intro a _; simp only [inB, decide_eq_true_eq]; omega]
    rfl
  | succ k ih =>
    have h : l.countP (inB (k + 1)) = l.countP (inB k) + l.count (k : Int) := by
      clear ih
      induction l with
      | nil => simp
      | cons a l ih =>
        rw [List.countP_cons, List.countP_cons, List.count_cons, ih]
        by_cases h1 : 0 ≤ a ∧ a < (k : Int)
        · have h2 : inB (k + 1) a = true := by simp only [inB, decide_eq_true_eq]; omega
          have h3 : (a == (k : Int)) = false := by rw [beq_eq_false_iff_ne]; omega
          have h4 : inB k a = true := by simp only [inB, decide_eq_true_eq]; exact h1
          rw [h2, h3, h4]; simp; omega
        · have h4 : inB k a = false := by simp only [inB, decide_eq_false_iff_not]; exact h1
          by_cases h3 : a = (k : Int)
          · have h2 : inB (k + 1) a = true := by simp only [inB, decide_eq_true_eq]; omega
            have h5 : (a == (k : Int)) = true := by rw [beq_iff_eq]; exact h3
            rw [h2, h5, h4]; simp; omega
          · have h2 : inB (k + 1) a = false := by simp only [inB, decide_eq_false_iff_not]; omega
            have h5 : (a == (k : Int)) = false := by rw [beq_eq_false_iff_ne]; exact h3
            rw [h2, h5, h4]; simp
    simp only [Bl]
    rw [h, ih]
    omega
theorem Bl_le (l : List Int) (k : Nat) : 0 ≤ Bl l k ∧ Bl l k ≤ l.length := by
  rw [Bl_bd l k]
  have := List.countP_le_length (p := inB k) (l := l)
  omega
end Go.Proofs.Ytoedkeopepanoaa
