/- gray.Bruijn as a plain function: words that follow each other. No condition. -/
import Derived.Test.YtoinpfcmolkhiaaDoorBl
set_option linter.unusedSimpArgs false
set_option linter.unusedVariables false
namespace Go.Proofs.YtoinpfcmolkhiaaDoor
open Go.RowKit
/-- A word written again and again. -/
def ext (ws : List Bool) (k : Nat) : Bool := ws.getD (k % ws.length) false
/-- How long a row is without what is true at its end. -/
def trimN (f : Nat → Bool) : Nat → Nat
  | 0 => 0
  | k + 1 => if f k then trimN f k else k + 1
theorem trimN_le (f : Nat → Bool) : ∀ k, trimN f k ≤ k
  | 0 => Nat.le_refl _
  | k + 1 => by have := trimN_le f k; unfold trimN; split <;> omega
theorem trimN_congr {f g : Nat → Bool} : ∀ k, (∀ i, i < k → f i = g i) → trimN f k = trimN g k
  | 0, _ => rfl
  | k + 1, h => by
    unfold trimN
    rw [h k (Nat.lt_succ_self k), trimN_congr k fun i hi => h i (by omega)]
def nxt (n : Nat) (ws : List Bool) : List Bool := tabB (trimN (ext ws) n) (fun i => if i = trimN (ext ws) n - 1 then true else ext ws i)
theorem nxt_len (n : Nat) (ws : List Bool) : (nxt n ws).length ≤ n := by unfold nxt; rw [tabB_len]; exact trimN_le _ _
def bst (n : Nat) : Nat → List Bool × List Bool
  | 0 => ([], [false])
  | j + 1 => (if n % (bst n j).2.length = 0 then (bst n j).1 ++ (bst n j).2 else (bst n j).1, nxt n (bst n j).2)
def iter (n : Nat) : Nat → List Bool → List Bool
  | 0, w => w
  | j + 1, w => iter n j (nxt n w)
def steps (n : Nat) : Nat → List Bool → Nat
  | 0, _ => 0
  | f + 1, w => if w = [] then 0 else 1 + steps n f (nxt n w)
theorem iter_succ (n : Nat) : ∀ j w, iter n (j + 1) w = nxt n (iter n j w)
  | 0, w => rfl
  | j + 1, w => iter_succ n j (nxt n w)
theorem bst_iter (n : Nat) : ∀ j, (bst n j).2 = iter n j [false]
  | 0 => rfl
  | j + 1 => by rw [iter_succ, ← bst_iter n j]; rfl
theorem steps_ok (n : Nat) : ∀ f w, (∀ j, j < steps n f w → iter n j w ≠ []) ∧ (steps n f w < f → iter n (steps n f w) w = [])
  | 0, w => ⟨fun j h => absurd h (Nat.not_lt_zero _), fun h => absurd h (Nat.lt_irrefl _)⟩
  | f + 1, w => by
    obtain ⟨h1, h2⟩ := steps_ok n f (nxt n w)
    unfold steps
    by_cases e : w = []
    · rw [if_pos e]
      exact ⟨fun j h => absurd h (Nat.not_lt_zero _), fun _ => e⟩
    · rw [if_neg e]
      refine ⟨fun j hj => ?_, fun h => ?_⟩
      · cases j with
        | zero => exact e
        | succ j => exact h1 j (by omega)
      · rw [show 1 + steps n f (nxt n w) = steps n f (nxt n w) + 1 by omega]
        exact h2 (by omega)
def cnt (n : Nat) : Nat := steps n 300 [false]
theorem cnt_lt : ∀ n, n < 11 → 0 < n → cnt n < 300 := by decide +kernel
theorem bst_some (n j : Nat) (h : j < cnt n) : (bst n j).2 ≠ [] := by rw [bst_iter]; exact (steps_ok n 300 [false]).1 j h
theorem bst_none (n : Nat) (h : n < 11) (h0 : 0 < n) : (bst n (cnt n)).2 = [] := by rw [bst_iter]; exact (steps_ok n 300 [false]).2 (cnt_lt n h h0)
theorem bst_w (n : Nat) (h0 : 0 < n) : ∀ j, (bst n j).2.length ≤ n
  | 0 => h0
  | j + 1 => nxt_len n _
theorem bst_o (n : Nat) (h0 : 0 < n) : ∀ j, (bst n j).1.length ≤ j * n
  | 0 => Nat.zero_le _
  | j + 1 => by
    have h1 := bst_o n h0 j
    have h2 := bst_w n h0 j
    rw [Nat.succ_mul]
    show (if n % (bst n j).2.length = 0 then (bst n j).1 ++ (bst n j).2 else (bst n j).1).length ≤ _
    split
    · rw [List.length_append]; omega
    · omega
/-- The row. -/
def bruN (n : Nat) : List Bool := if n = 0 then [false] else (bst n (cnt n)).1
end Go.Proofs.YtoinpfcmolkhiaaDoor
