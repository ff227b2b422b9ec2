/- Sums of parts, as a tree of sums holds them. No program in sight. No condition. -/
import Derived.Test.YtkljkogcahmaaaaDef
set_option linter.unusedSimpArgs false
set_option linter.unusedVariables false
namespace Go.Proofs.Ytkljkogcahmaaaa
/-- The lowest bit of a place. -/
def lb (k : Nat) : Nat := k &&& (1024 - k)
theorem lb_all : ((List.range 512).all fun k => decide (0 < k → 0 < lb k ∧ lb k ≤ k)) = true := by decide +kernel
theorem lb_pos {k : Nat} (h0 : 0 < k) (h : k < 512) : 0 < lb k ∧ lb k ≤ k := by
  have := List.all_eq_true.1 lb_all k (List.mem_range.2 h)
  simp only [decide_eq_true_eq] at this
  exact this h0
theorem lb_all2 : ((List.range 402).all fun p => decide (0 < p → (p + lb p) - lb (p + lb p) ≤ p - lb p) && (List.range (lb p)).all fun m => decide (0 < p → 0 < m → p ≤ p + m - lb (p + m))) = true := by decide +kernel
theorem lb_next {p : Nat} (h0 : 0 < p) (h : p < 402) : (p + lb p) - lb (p + lb p) ≤ p - lb p ∧ ∀ j, p < j → j < p + lb p → p ≤ j - lb j := by
  have := List.all_eq_true.1 lb_all2 p (List.mem_range.2 h)
  simp only [Bool.and_eq_true, decide_eq_true_eq, List.all_eq_true, List.mem_range] at this
  refine ⟨this.1 h0, fun j h1 h2 => ?_⟩
  have e := this.2 (j - p) (by omega) h0 (by omega)
  rwa [show p + (j - p) = j by omega] at e
theorem lb_all3 : ((List.range 9).all fun a => (List.range 201).all fun q => decide ((2 * q + 1) * 2 ^ a < 402 → lb ((2 * q + 1) * 2 ^ a) = 2 ^ a)) = true := by decide +kernel
theorem lb_odd {a q : Nat} (ha : a < 9) (h : (2 * q + 1) * 2 ^ a < 402) : lb ((2 * q + 1) * 2 ^ a) = 2 ^ a := by
  have h2 : 1 ≤ 2 ^ a := Nat.one_le_two_pow
  have hq : q < 201 := by
    have : (2 * q + 1) * 1 ≤ (2 * q + 1) * 2 ^ a := Nat.mul_le_mul_left _ h2
    omega
  have := List.all_eq_true.1 (List.all_eq_true.1 lb_all3 a (List.mem_range.2 ha)) q (List.mem_range.2 hq)
  simp only [decide_eq_true_eq] at this
  exact this h
/-- What a place of the tree holds. -/
def tr (f : Nat → Nat) (j : Nat) : Nat := tot f j - tot f (j - lb j)
theorem tot_mono {f : Nat → Nat} {a b : Nat} (h : a ≤ b) : tot f a ≤ tot f b := by
  obtain ⟨c, rfl⟩ : ∃ c, b = a + c := ⟨b - a, by omega⟩
  rw [tot_add]; omega
theorem tr_plus (f : Nat → Nat) (j : Nat) : tr f j + tot f (j - lb j) = tot f j := by
  have := tot_mono (f := f) (show j - lb j ≤ j by omega)
  unfold tr; omega
/-- One weight changed: sums up to it stay; sums over it change by as much. -/
theorem tot_one {f g : Nat → Nat} {k : Nat} (hg : ∀ i, i ≠ k → g i = f i) (j : Nat) : (tot g j : Int) = tot f j + if k < j then (g k : Int) - f k else 0 := by
  induction j with
  | zero => simp [tot]
  | succ j ih =>
    rw [tot, tot]
    by_cases e : j = k
    · subst e
      rw [if_neg (by omega)] at ih
      rw [if_pos (by omega)]
      omega
    · rw [hg j e]
      by_cases h : k < j
      · rw [if_pos h] at ih; rw [if_pos (by omega)]; omega
      · rw [if_neg h] at ih; rw [if_neg (by omega)]; omega
theorem tr_one {f g : Nat → Nat} {k : Nat} (hg : ∀ i, i ≠ k → g i = f i) (j : Nat) (hj : j - lb j ≤ j) : (tr g j : Int) = tr f j + if j - lb j ≤ k ∧ k < j then (g k : Int) - f k else 0 := by
  have h1 := tot_one hg j
  have h2 := tot_one hg (j - lb j)
  have h3 := tr_plus f j
  have h4 := tr_plus g j
  by_cases a : k < j
  · rw [if_pos a] at h1
    by_cases b : k < j - lb j
    · rw [if_pos b] at h2; rw [if_neg (by omega)]; omega
    · rw [if_neg b] at h2; rw [if_pos (by omega)]; omega
  · rw [if_neg a] at h1
    rw [if_neg (by omega)] at h2
    rw [if_neg (by omega)]; omega
theorem tr_le {f : Nat → Nat} {c : Nat} (h : ∀ i, f i ≤ c) (j : Nat) : tr f j ≤ j * c := by
  have h1 := tot_le (k := j) (fun i _ => h i)
  have h3 := tr_plus f j
  omega
/-- The place of a number in the sums. -/
def AtP (f : Nat → Nat) (n k : Nat) : Prop := tot f k ≤ n ∧ n < tot f (k + 1)
theorem AtP.uniq {f : Nat → Nat} {n k l : Nat} (h : AtP f n k) (h' : AtP f n l) : k = l := by
  unfold AtP at h h'
  rcases Nat.lt_trichotomy k l with e | e | e
  · have := tot_mono (f := f) (show k + 1 ≤ l by omega); omega
  · exact e
  · have := tot_mono (f := f) (show l + 1 ≤ k by omega); omega
end Go.Proofs.Ytkljkogcahmaaaa
