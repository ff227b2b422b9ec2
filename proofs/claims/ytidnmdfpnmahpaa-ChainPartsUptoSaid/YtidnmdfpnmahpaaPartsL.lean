/- chain.Go in two parts: plain. No condition. -/
import Derived.Test.YtidnmdfpnmahpaaGo
set_option linter.unusedSimpArgs false
set_option linter.unusedVariables false
namespace Go.Proofs.Ytidnmdfpnmahpaa
open Go.RowKit
/-- Where one is behind a way. -/
def lastN (f : Nat) (l : List Int) : Nat := match l with
  | [] => f
  | x :: r => ((x :: r).getD r.length 0).toNat
theorem lastN_cons (f k : Nat) (l : List Int) : lastN f ((k : Int) :: l) = lastN k l := by
  cases l with
  | nil => rfl
  | cons x r => rfl
theorem goF_app (M : List (List Int)) : ∀ (a : List Int) (f : Nat) (b : List Int), goF M f (a ++ b) = (goF M f a).bind fun x => (goF M (lastN f x) b).map (x ++ ·)
  | [], f, b => by
    show goF M f b = (goF M f b).map ([] ++ ·)
    cases goF M f b <;> rfl
  | n :: ns, f, b => by
    show (if n < 0 ∨ sumL (M.getD f []) ≤ n then none else (goF M (pickF (M.getD f []) n) (ns ++ b)).map ((pickF (M.getD f []) n : Int) :: ·)) = ((if n < 0 ∨ sumL (M.getD f []) ≤ n then none else (goF M (pickF (M.getD f []) n) ns).map ((pickF (M.getD f []) n : Int) :: ·))).bind _
    by_cases h : n < 0 ∨ sumL (M.getD f []) ≤ n
    · rw [if_pos h, if_pos h]; rfl
    · rw [if_neg h, if_neg h, goF_app M ns]
      generalize pickF (M.getD f []) n = k
      cases goF M k ns with
      | none => rfl
      | some x =>
        show ((goF M (lastN k x) b).map (x ++ ·)).map ((k : Int) :: ·) = (goF M (lastN f ((k : Int) :: x)) b).map (((k : Int) :: x) ++ ·)
        rw [lastN_cons]
        cases goF M (lastN k x) b <;> rfl
theorem goF_in {n : Nat} {M : List (List Int)} (hM : M.length = n) (hr : ∀ r ∈ M, r.length = n ∧ 0 < sumL r) : ∀ (ns : List Int) (f : Nat) (l : List Int), f < n → goF M f ns = some l → ∀ x ∈ l, 0 ≤ x ∧ x < n
  | [], f, l, _, h => by cases h; intro x hx; cases hx
  | m :: ns, f, l, hf, h => by
    unfold goF at h
    split at h
    · cases h
    · rename_i hm
      rw [Option.map_eq_some_iff] at h
      obtain ⟨l', h1, rfl⟩ := h
      obtain ⟨q1, q2⟩ := hr _ (getD_mem M f [] (by omega))
      have hk : pickF (M.getD f []) m < n := by
        rcases pickF_lt (M.getD f []) m (by omega) with h2 | h2
        · omega
        · rw [h2] at q2; simp [sumL] at q2
      intro x hx
      rcases List.mem_cons.1 hx with rfl | hx
      · omega
      · exact goF_in hM hr ns _ l' hk h1 x hx
theorem lastN_lt {n f : Nat} {l : List Int} (hf : f < n) (h : ∀ x ∈ l, 0 ≤ x ∧ x < n) : lastN f l < n := by
  cases l with
  | nil => exact hf
  | cons x r =>
    have := h ((x :: r).getD r.length 0) (getD_mem _ _ _ (by simp))
    show ((x :: r).getD r.length 0).toNat < n
    omega
end Go.Proofs.Ytidnmdfpnmahpaa
