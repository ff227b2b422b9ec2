/- perm.Then and perm.Back: what they answer. No condition. -/
import Derived.Test.YthaiopgmncnekaaDoorCycRight
set_option linter.unusedSimpArgs false
set_option linter.unusedVariables false
set_option maxRecDepth 20000
namespace Go.Proofs.YthaiopgmncnekaaDoor.Cyc
open Go.RowKit
theorem step_if {i y : Nat} {F : Nat → Nat} {G : Nat → Nat} (hy : F i = y) (k : Nat) : (if k = i then y else if k < i then F k else G k) = if k < i + 1 then F k else G k := by
  by_cases e : k = i
  · subst e; rw [if_pos rfl, if_pos (by omega), hy]
  · rw [if_neg e]
    by_cases e2 : k < i
    · rw [if_pos e2, if_pos (by omega)]
    · rw [if_neg e2, if_neg (by omega)]
/-- Where f has the value x, below n. -/
def inv (f : Nat → Nat) : Nat → Nat → Nat
  | 0, _ => 0
  | n + 1, x => if x = f n then n else inv f n x
theorem inv_at {f : Nat → Nat} : ∀ {n k : Nat}, (∀ i j, i < n → j < n → f i = f j → i = j) → k < n → inv f n (f k) = k
  | n + 1, k, h, hk => by
    rw [inv]
    by_cases e : f k = f n
    · rw [if_pos e]; exact h n k (by omega) hk e.symm
    · rw [if_neg e]
      have : k ≠ n := fun h => e (by rw [h])
      exact inv_at (fun i j hi hj => h i j (by omega) (by omega)) (by omega)
theorem inv_lt {f : Nat → Nat} : ∀ {n x : Nat}, 0 < n → inv f n x < n
  | n + 1, x, _ => by
    rw [inv]
    split
    · omega
    · rcases Nat.eq_zero_or_pos n with h | h
      · subst h; simp [inv]
      · have := inv_lt (f := f) (x := x) h; omega
end Go.Proofs.YthaiopgmncnekaaDoor.Cyc
