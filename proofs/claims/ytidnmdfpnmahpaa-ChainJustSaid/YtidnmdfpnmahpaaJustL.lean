/- How often each state is come to, of all numbers: plain. No condition. -/
import Derived.Test.YtidnmdfpnmahpaaGo
set_option linter.unusedSimpArgs false
set_option linter.unusedVariables false
namespace Go.Proofs.Ytidnmdfpnmahpaa
open Go.RowKit
def cp (r : List Int) : Nat → Nat → Nat
  | 0, _ => 0
  | m + 1, j => cp r m j + if pickF r m = j then 1 else 0
theorem pick_head (x : Nat) (r : List Int) (m : Nat) (h : m < x) : pickF ((x : Int) :: r) m = 0 := by unfold pickF; rw [if_pos (by omega)]
theorem pick_tail (x : Nat) (r : List Int) (m : Nat) (h : ¬ m < x) : pickF ((x : Int) :: r) m = pickF r ((m - x : Nat) : Int) + 1 := by
  show (if (m : Int) < (x : Int) then 0 else pickF r ((m : Int) - (x : Int)) + 1) = _
  rw [if_neg (by omega), show ((m : Int) - (x : Int)) = ((m - x : Nat) : Int) by omega]
theorem cp_step (r : List Int) (m j : Nat) : cp r (m + 1) j = cp r m j + if pickF r m = j then 1 else 0 := rfl
theorem cp_head (x : Nat) (r : List Int) : ∀ m, cp ((x : Int) :: r) m 0 = min m x
  | 0 => by simp [cp]
  | m + 1 => by
    rw [cp_step, cp_head x r m]
    by_cases h : m < x
    · rw [pick_head x r m h, if_pos rfl]; omega
    · rw [pick_tail x r m h, if_neg (by omega)]; omega
theorem cp_tail (x : Nat) (r : List Int) (j : Nat) : ∀ m, cp ((x : Int) :: r) m (j + 1) = cp r (m - x) j
  | 0 => by simp [cp]
  | m + 1 => by
    rw [cp_step, cp_tail x r j m]
    by_cases h : m < x
    · rw [pick_head x r m h, if_neg (by omega), show m + 1 - x = 0 by omega, show m - x = 0 by omega]; rfl
    · rw [pick_tail x r m h, show m + 1 - x = (m - x) + 1 by omega, cp_step]
      congr 1
      by_cases h2 : pickF r ((m - x : Nat) : Int) = j
      · rw [if_pos h2, if_pos (by omega)]
      · rw [if_neg h2, if_neg (by omega)]
theorem cp_all : ∀ (r : List Int) (S : Nat), (∀ x ∈ r, 0 ≤ x) → sumL r = S → ∀ j, j < r.length → (cp r S j : Int) = r.getD j 0
  | [], _, _, _, j, h => absurd h (Nat.not_lt_zero _)
  | x :: r, S, hx, hS, j, hj => by
    have h0 := hx x List.mem_cons_self
    obtain ⟨X, rfl⟩ : ∃ X : Nat, x = X := ⟨x.toNat, by omega⟩
    unfold sumL at hS
    have hr : 0 ≤ sumL r := by
      have : ∀ l : List Int, (∀ x ∈ l, 0 ≤ x) → 0 ≤ sumL l := by
        intro l
        induction l with
        | nil => intro _; exact Int.le_refl _
        | cons y l ih =>
          intro hl
          have h1 := hl y List.mem_cons_self
          have h2 := ih (fun z hz => hl z (List.mem_cons_of_mem _ hz))
          unfold sumL; omega
      exact this r (fun y hy => hx y (List.mem_cons_of_mem _ hy))
    cases j with
    | zero => rw [cp_head]; show ((min S X : Nat) : Int) = X; omega
    | succ j =>
      rw [cp_tail]
      have := cp_all r (S - X) (fun y hy => hx y (List.mem_cons_of_mem _ hy)) (by omega) j (by simpa using hj)
      rw [this]; rfl
/-- The table after so many numbers. -/
def tabC (r : List Int) (n m : Nat) : List Int := (List.range n).map (fun j => ((cp r m j : Nat) : Int))
theorem tabC_len (r : List Int) (n m : Nat) : (tabC r n m).length = n := by simp [tabC]
theorem tabC_get (r : List Int) (n m j : Nat) (h : j < n) : (tabC r n m).getD j 0 = (cp r m j : Nat) := by
  unfold tabC
  rw [List.getD_eq_getElem?_getD, List.getElem?_map, List.getElem?_range h]; rfl
theorem tabC_zero (r : List Int) (n : Nat) : List.replicate n (0 : Int) = tabC r n 0 := by
  apply List.ext_getElem (by simp [tabC])
  intro i h1 h2
  simp [tabC, cp]
theorem tabC_set (r : List Int) (n m : Nat) (h : pickF r m < n) : (tabC r n m).set (pickF r m) ((cp r m (pickF r m) : Nat) + 1 : Int) = tabC r n (m + 1) := by
  apply List.ext_getElem (by simp [tabC])
  intro i h1 h2
  have hi : i < n := by simpa [tabC] using h2
  rw [List.getElem_set]
  by_cases e : pickF r m = i
  · rw [if_pos e]
    subst e
    simp [tabC, cp]
  · rw [if_neg e]
    simp [tabC, cp, e]
theorem tabC_all (r : List Int) (n S : Nat) (hl : r.length = n) (hx : ∀ x ∈ r, 0 ≤ x) (hS : sumL r = S) : tabC r n S = r := by
  subst hl
  apply List.ext_getElem (by simp [tabC])
  intro i h1 h2
  have := cp_all r S hx hS i h2
  rw [List.getD_eq_getElem?_getD, List.getElem?_eq_getElem h2] at this
  simpa [tabC] using this
theorem goF_one (M : List (List Int)) (f : Nat) (m : Nat) (S : Int) (hS : sumL (M.getD f []) = S) (hm : (m : Int) < S) : goF M f [(m : Int)] = some [(pickF (M.getD f []) m : Int)] := by
  unfold goF
  rw [if_neg (by omega)]
  rfl
end Go.Proofs.Ytidnmdfpnmahpaa
