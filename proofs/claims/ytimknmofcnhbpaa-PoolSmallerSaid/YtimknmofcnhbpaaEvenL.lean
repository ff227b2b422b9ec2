/- How often each choice is kept over all draws: plain. No condition. -/
import Derived.Test.YtimknmofcnhbpaaRowsL
set_option linter.unusedSimpArgs false
set_option linter.unusedVariables false
namespace Go.Proofs.Ytimknmofcnhbpaa
open Go.RowKit
def poolNat (r n x : Nat) : List Nat := (poolN r n x).map Int.toNat
/-- The counts after x lists of draws. -/
def ALf (r n : Nat) : Nat → List (Nat × Nat)
  | 0 => []
  | x + 1 => bump (ALf r n x) (setN (poolNat r n x) 0) 1
def wantF (n : Nat) : Nat → Nat
  | 0 => 1
  | k + 1 => wantF n k * (n - k) / (k + 1)
def goodP (r n x : Nat) : Bool := (castL (poolNat r n x) == poolN r n x) && (poolNat r n x).all (· < 20) && decide ((poolNat r n x).length ≤ 20)
def chkE (r n : Nat) : Bool := (ALf r n (fac n)).all (fun p => p.2 * wantF n r == fac n) && decide ((ALf r n (fac n)).length = wantF n r)
set_option maxRecDepth 100000 in
theorem good_all : ∀ n, n ≤ 6 → ∀ r, r ≤ n → 1 ≤ r → ∀ x, x < fac n → goodP r n x = true := by decide +kernel
set_option maxRecDepth 100000 in
theorem chk_all : ∀ n, n ≤ 6 → ∀ r, r ≤ n → 1 ≤ r → chkE r n = true := by decide +kernel
theorem want_le : ∀ n, n ≤ 6 → ∀ k, k ≤ n → wantF n k ≤ 20 := by decide
theorem lk_bump_le (L : List (Nat × Nat)) (x d : Nat) (y : Int) : lk (bump L x d) y ≤ lk L y + d := by
  rw [lk_bump]
  split
  · rename_i h; rw [h]; omega
  · omega
theorem ALf_le (r n : Nat) (y : Int) : ∀ x, lk (ALf r n x) y ≤ x
  | 0 => Nat.le_refl _
  | x + 1 => by
    have h1 := ALf_le r n y x
    have h2 := lk_bump_le (ALf r n x) (setN (poolNat r n x) 0) 1 y
    show lk (bump _ _ _) y ≤ _
    omega
theorem lk_all {P : Nat → Bool} : ∀ (L : List (Nat × Nat)) (y : Int), L.all (fun p => P p.2) = true → hk L y = true → P (lk L y) = true
  | [], y, _, h => by simp [hk] at h
  | p :: r, y, h, hh => by
    simp only [List.all_cons, Bool.and_eq_true] at h
    unfold lk
    by_cases e : (p.1 : Int) = y
    · rw [if_pos e]; exact h.1
    · rw [if_neg e]
      refine lk_all r y h.2 ?_
      unfold hk at hh ⊢
      rw [List.any_cons, decide_eq_false e, Bool.false_or] at hh
      exact hh
end Go.Proofs.Ytimknmofcnhbpaa
