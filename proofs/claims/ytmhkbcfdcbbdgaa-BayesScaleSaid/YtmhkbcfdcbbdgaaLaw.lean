/- What bayes.See computes, in closed form. No condition. -/
import Derived.Test.YtmhkbcfdcbbdgaaAl
set_option linter.unusedSimpArgs false
set_option linter.unusedVariables false
namespace Go.Proofs.Ytmhkbcfdcbbdgaa
open Go.RowKit
def prd (zss : List (List Int)) (k : Nat) : List Int → Nat
  | [] => 1
  | s :: ns => sg zss k s.toNat * prd zss k ns
theorem stF_eq (n : Nat) (zss : List (List Int)) : ∀ (ns : List Int) (f : Nat → Nat) {i : Nat}, i < n → lw (stF n zss f ns) n i = lw (fun k => f k * prd zss k ns) n i
  | [], f, i, hi => lw_congr (fun k _ => (Nat.mul_one _).symm) hi
  | s :: ns, f, i, hi => by
    rw [stF, stF_eq n zss ns _ hi]
    unfold stp
    rw [lw_mul _ _ hi]
    exact lw_congr (fun k _ => by rw [prd, Nat.mul_assoc]) hi
theorem seeT_eq (zs : List Int) (zss : List (List Int)) (ns : List Int) {i : Nat} (hi : i < zs.length) : seeT zs zss ns i = lw (fun k => nd zs k * prd zss k ns) zs.length i := stF_eq _ _ _ _ hi
theorem prd_zero {zss : List (List Int)} {k : Nat} : ∀ {ns : List Int}, prd zss k ns = 0 ↔ ∃ i, i < ns.length ∧ sg zss k (ns.getD i 0).toNat = 0
  | [] => by simp [prd]
  | s :: ns => by
    rw [prd, Nat.mul_eq_zero, prd_zero]
    constructor
    · rintro (h | ⟨i, h1, h2⟩)
      · exact ⟨0, by simp, h⟩
      · exact ⟨i + 1, by simpa using h1, by simpa [List.getD_eq_getElem?_getD] using h2⟩
    · rintro ⟨i, h1, h2⟩
      cases i with
      | zero => exact .inl h2
      | succ i => exact .inr ⟨i, by simpa using h1, by simpa [List.getD_eq_getElem?_getD] using h2⟩
theorem seeT_zero (zs : List Int) (zss : List (List Int)) (ns : List Int) {k : Nat} (hk : k < zs.length) : seeT zs zss ns k = 0 ↔ nd zs k = 0 ∨ ∃ i, i < ns.length ∧ sg zss k (ns.getD i 0).toNat = 0 := by
  rw [seeT_eq _ _ _ hk, lw_zero hk, Nat.mul_eq_zero, prd_zero]
theorem prd_append (zss : List (List Int)) (k : Nat) (ys : List Int) : ∀ xs : List Int, prd zss k (xs ++ ys) = prd zss k xs * prd zss k ys
  | [] => by rw [prd, Nat.one_mul]; rfl
  | x :: xs => by
    show sg zss k x.toNat * prd zss k (xs ++ ys) = _
    rw [prd_append zss k ys xs, prd, Nat.mul_assoc]
theorem prd_reverse (zss : List (List Int)) (k : Nat) : ∀ xs : List Int, prd zss k xs.reverse = prd zss k xs
  | [] => rfl
  | x :: xs => by
    rw [List.reverse_cons, prd_append, prd_reverse zss k xs, prd, prd, prd, Nat.mul_one, Nat.mul_comm]
theorem seeT_le (zs : List Int) (zss : List (List Int)) (ns : List Int) (hok : OkB zs zss) (h : ns.length ≤ 12) {k : Nat} (hk : k < zs.length) : seeT zs zss ns k ≤ 282429536481000 := by
  rw [seeT_eq _ _ _ hk]
  refine Nat.le_trans (lw_le _ _ _) ?_
  have hp : ∀ ns : List Int, prd zss k ns ≤ 9 ^ ns.length := fun ns => by
    induction ns with
    | nil => exact Nat.le_refl _
    | cons s ns ih =>
      rw [prd, List.length_cons, Nat.pow_succ, Nat.mul_comm]
      exact Nat.mul_le_mul ih (sg_le hok _ _)
  exact Nat.le_trans (Nat.mul_le_mul (nd_le hok k) (hp ns)) (pow9 h)
theorem seeE_cases (zs : List Int) (zss : List (List Int)) (ns : List Int) (h : seeE zs zss ns = 0) : OkB zs zss ∧ ns.length ≤ 12 ∧ Seen (zss.getD 0 []).length ns := by
  by_cases h1 : wrF zs zss = 0
  · by_cases h2 : 12 < ns.length
    · rw [seeE_many h1 h2] at h; cases h
    · by_cases h3 : Seen (zss.getD 0 []).length ns
      · exact ⟨wrF_zero.1 h1, by omega, h3⟩
      · rw [seeE_none h1 h2 h3] at h; cases h
  · rw [seeE_bad h1] at h; exact absurd h h1
theorem wrF_le (zs : List Int) (zss : List (List Int)) : wrF zs zss ≤ 2 := by
  have : ∀ n0 (zs : List Int) (zss : List (List Int)), wrL n0 zs zss ≤ 2 := fun n0 zs => by
    induction zs with
    | nil => intro zss; simp [wrL]
    | cons p ps ih =>
      intro zss
      cases zss with
      | nil => simp [wrL]
      | cons r rs =>
        rw [wrL]
        split
        · omega
        split
        · omega
        split
        · omega
        exact ih rs
  unfold wrF
  split
  · omega
  split
  · omega
  exact this _ _ _
theorem seeE_le (zs : List Int) (zss : List (List Int)) (ns : List Int) : seeE zs zss ns ≤ 3 := by
  have := wrF_le zs zss
  unfold seeE
  repeat' split
  all_goals omega
end Go.Proofs.Ytmhkbcfdcbbdgaa
