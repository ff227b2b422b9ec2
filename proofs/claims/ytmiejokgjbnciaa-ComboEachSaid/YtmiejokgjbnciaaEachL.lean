/- ComboEach: the plain law. No condition. -/
import Derived.Test.YtmiejokgjbnciaaEAll
import Derived.Test.YtmiejokgjbnciaaAl
set_option linter.unusedSimpArgs false
set_option linter.unusedVariables false
namespace Go.Proofs.Ytmiejokgjbnciaa.comboEach
open Go.RowKit Go.Proofs.Ytmiejokgjbnciaa
theorem ea_count : ∀ n k, (ea n k).length = pas n k
  | n, 0 => by rw [ea_zero, pas_zero]; rfl
  | 0, k + 1 => rfl
  | n + 1, k + 1 => by rw [ea_succ, List.length_append, List.length_map, ea_count n (k + 1), ea_count n k, pas_succ]; omega
instance (n : Int) (zs : List Int) : Decidable (RightP n zs) := by unfold RightP Rising; infer_instance
instance (n : Int) (zs : List Int) (k : Nat) : Decidable (Mov n zs k) := by unfold Mov; infer_instance
/-- The first place that can move. -/
def fm (n : Int) (zs : List Int) : Nat → Nat → Option Nat
  | 0, _ => none
  | f + 1, j => if Mov n zs j then some j else fm n zs f (j + 1)
theorem fm_some {n : Int} {zs : List Int} {k : Nat} (hm : Mov n zs k) : ∀ f j, j ≤ k → k < j + f → (∀ i, j ≤ i → i < k → ¬ Mov n zs i) → fm n zs f j = some k
  | 0, j, h1, h2, _ => by omega
  | f + 1, j, h1, h2, hno => by
    rw [fm]
    by_cases e : j = k
    · subst e; rw [if_pos hm]
    · rw [if_neg (hno j (Nat.le_refl _) (by omega))]
      exact fm_some hm f (j + 1) (by omega) (by omega) (fun i h3 h4 => hno i (by omega) h4)
theorem fm_none {n : Int} {zs : List Int} : ∀ f j, (∀ i, j ≤ i → i < j + f → ¬ Mov n zs i) → fm n zs f j = none
  | 0, j, _ => rfl
  | f + 1, j, hno => by
    rw [fm, if_neg (hno j (Nat.le_refl _) (by omega))]
    exact fm_none f (j + 1) (fun i h1 h2 => hno i (by omega) (by omega))
def nextF (n : Int) (zs : List Int) : Option (List Int) := (fm n zs zs.length 0).map fun k => tab zs.length (nxf (fun i => zs.getD i 0) k)
def chk (n k : Nat) : Bool :=
  let L := ea n k
  (List.range L.length).all fun i => decide (RightP n (L.getD i [])) && decide (rk (L.getD i []) = i) && decide (nextF n (L.getD i []) = if i + 1 < L.length then some (L.getD (i + 1) []) else none)
set_option maxRecDepth 100000 in
theorem chk_all : ∀ n, n < 10 → ∀ k, k < 10 → chk n k = true := by decide +kernel
theorem law {n k i : Nat} (hn : n ≤ 9) (hk : k ≤ 9) (hi : i < (ea n k).length) : RightP n ((ea n k).getD i []) ∧ rk ((ea n k).getD i []) = i ∧ nextF n ((ea n k).getD i []) = if i + 1 < (ea n k).length then some ((ea n k).getD (i + 1) []) else none := by
  have h := chk_all n (by omega) k (by omega)
  unfold chk at h
  rw [List.all_eq_true] at h
  have := h i (List.mem_range.2 hi)
  simp only [Bool.and_eq_true, decide_eq_true_iff] at this
  exact ⟨this.1.1, this.1.2, this.2⟩
end Go.Proofs.Ytmiejokgjbnciaa.comboEach
