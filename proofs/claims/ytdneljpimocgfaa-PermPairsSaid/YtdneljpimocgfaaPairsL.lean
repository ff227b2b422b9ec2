/- PermPairs: the plain law. No condition. -/
import Derived.Test.YtdneljpimocgfaaAl
set_option linter.unusedSimpArgs false
set_option linter.unusedVariables false
namespace Go.Proofs.Ytdneljpimocgfaa.permPairs
open Go.RowKit Go.Proofs.Ytdneljpimocgfaa
/-- The sum over all below k. -/
def tot (g : Nat → Nat) : Nat → Nat
  | 0 => 0
  | k + 1 => tot g k + g k
theorem tot_congr {f g : Nat → Nat} : ∀ {k : Nat}, (∀ i, i < k → f i = g i) → tot f k = tot g k
  | 0, _ => rfl
  | k + 1, h => by rw [tot, tot, tot_congr (fun i hi => h i (by omega)), h k (by omega)]
theorem tot_zero : ∀ {g : Nat → Nat} {k : Nat}, (∀ i, i < k → g i = 0) → tot g k = 0
  | _, 0, _ => rfl
  | g, k + 1, h => by rw [tot, tot_zero (fun i hi => h i (by omega)), h k (by omega)]
theorem tot_plus (f g : Nat → Nat) : ∀ k, tot (fun i => f i + g i) k = tot f k + tot g k
  | 0 => rfl
  | k + 1 => by rw [tot, tot, tot, tot_plus f g k]; omega
theorem tot_swap (f : Nat → Nat → Nat) (n : Nat) : ∀ m, tot (fun i => tot (f i) n) m = tot (fun j => tot (fun i => f i j) m) n
  | 0 => (tot_zero (fun _ _ => rfl)).symm
  | m + 1 => by
    rw [tot, tot_swap f n m, ← tot_plus]
    rfl
theorem tot_le {f : Nat → Nat} {c : Nat} : ∀ {k : Nat}, (∀ i, i < k → f i ≤ c) → tot f k ≤ k * c
  | 0, _ => Nat.zero_le _
  | k + 1, h => by
    have h1 := tot_le (k := k) (fun i hi => h i (by omega))
    have h2 := h k (by omega)
    rw [tot, Nat.add_mul, Nat.one_mul]; omega
theorem tot_range (f : Nat → Nat) : ∀ n, tot f n = ((List.range n).map f).sum
  | 0 => rfl
  | n + 1 => by rw [tot, List.range_succ, List.map_append, List.sum_append, tot_range f n]; simp
theorem sum_perm {l m : List Nat} (h : l.Perm m) : l.sum = m.sum := by
  induction h with
  | nil => rfl
  | cons x _ ih => rw [List.sum_cons, List.sum_cons, ih]
  | swap x y l => rw [List.sum_cons, List.sum_cons, List.sum_cons, List.sum_cons]; omega
  | trans _ _ h1 h2 => rw [h1, h2]
/-- A sum over all places in another order. -/
theorem tot_re {g : Nat → Nat} {n : Nat} (h1 : ∀ i, i < n → g i < n) (h2 : ∀ i j, i < n → j < n → g i = g j → i = j) (h : Nat → Nat) : tot (fun a => h (g a)) n = tot h n := by
  have hp : ((List.range n).map g).Perm (List.range n) := by
    refine (List.perm_ext_iff_of_nodup ?_ List.nodup_range).2 fun y => ?_
    · rw [List.nodup_iff_pairwise_ne, List.pairwise_map]
      rw [List.pairwise_iff_getElem]
      intro i j hi hj hij e
      simp only [List.length_range] at hi hj
      simp only [List.getElem_range] at e
      have := h2 i j hi hj e
      omega
    · rw [List.mem_map, List.mem_range]
      constructor
      · rintro ⟨i, hi, rfl⟩; exact h1 i (List.mem_range.1 hi)
      · intro hy
        obtain ⟨i, hi, e⟩ := onto n g h1 h2 y hy
        exact ⟨i, List.mem_range.2 hi, e⟩
  rw [tot_range, tot_range, ← sum_perm (hp.map h), List.map_map]
  rfl
def lt1 (a b : Nat) : Nat := if a < b then 1 else 0
/-- How many stand the wrong way round to the i-th, ahead of it; and all. -/
def wi (f : Nat → Nat) (i : Nat) : Nat := tot (fun j => lt1 (f i) (f j)) i
def W (f : Nat → Nat) (n : Nat) : Nat := tot (wi f) n
theorem sum_code (f : Nat → Nat) : ∀ n, tot (cd f n) n = W f n
  | 0 => rfl
  | n + 1 => by
    have e1 : tot (cd f (n + 1)) n = tot (fun k => cd f n k + lt1 (f n) (f k)) n := tot_congr fun k hk => by
      unfold cd
      rw [show n + 1 - 1 - k = (n - 1 - k) + 1 by omega, cn, show k + 1 + (n - 1 - k) = n by omega]
      rfl
    have e2 : cd f (n + 1) n = 0 := by unfold cd; rw [show n + 1 - 1 - n = 0 by omega, cn]
    rw [tot, e1, tot_plus, sum_code f n, e2, Nat.add_zero]
    rfl
def both (f : Nat → Nat) (i j : Nat) : Nat := if j < i ∧ f i < f j then 1 else 0
theorem tot_ahead (h : Nat → Nat) (i : Nat) : ∀ {n : Nat}, i ≤ n → tot (fun j => if j < i then h j else 0) n = tot h i
  | 0, hi => by rw [show i = 0 by omega]; rfl
  | n + 1, hi => by
    by_cases e : i = n + 1
    · subst e
      exact tot_congr fun j hj => by rw [if_pos hj]
    · rw [tot, tot_ahead h i (by omega), if_neg (by omega), Nat.add_zero]
theorem W_both (f : Nat → Nat) (n : Nat) : W f n = tot (fun i => tot (both f i) n) n := tot_congr fun i hi => by
  unfold wi
  rw [← tot_ahead (fun j => lt1 (f i) (f j)) i (show i ≤ n by omega)]
  refine tot_congr fun j hj => ?_
  unfold both lt1
  by_cases h1 : j < i
  · rw [if_pos h1]
    by_cases h2 : f i < f j
    · rw [if_pos h2, if_pos ⟨h1, h2⟩]
    · rw [if_neg h2, if_neg (fun h => h2 h.2)]
  · rw [if_neg h1, if_neg (fun h => h1 h.1)]
theorem W_inv {f g : Nat → Nat} {n : Nat} (hf : ∀ i, i < n → f i < n) (hg : ∀ i, i < n → g i < n) (h1 : ∀ i, i < n → g (f i) = i) (h2 : ∀ i, i < n → f (g i) = i) : W g n = W f n := by
  have inj : ∀ i j, i < n → j < n → g i = g j → i = j := fun i j hi hj e => by rw [← h2 i hi, ← h2 j hj, e]
  rw [W_both f n, ← tot_re hg inj (fun i => tot (both f i) n)]
  have e1 : tot (fun a => tot (both f (g a)) n) n = tot (fun a => tot (fun b => both f (g a) (g b)) n) n := tot_congr fun a _ => (tot_re hg inj (both f (g a))).symm
  rw [e1, tot_swap, W_both g n]
  refine tot_congr fun i hi => tot_congr fun j hj => ?_
  unfold both
  rw [h2 j hj, h2 i hi]
  by_cases h : j < i ∧ g i < g j
  · rw [if_pos h, if_pos ⟨h.2, h.1⟩]
  · rw [if_neg h, if_neg (fun h' => h ⟨h'.2, h'.1⟩)]
def sw2 (f : Nat → Nat) (k : Nat) : Nat → Nat := fun i => if i = k then f (k + 1) else if i = k + 1 then f k else f i
theorem tot_sw (h : Nat → Nat) (k : Nat) : ∀ {i : Nat}, k + 1 < i → tot (sw2 h k) i = tot h i
  | i + 1, hi => by
    by_cases e : i = k + 1
    · subst e
      have e0 : tot (sw2 h k) k = tot h k := tot_congr fun j hj => by unfold sw2; rw [if_neg (by omega), if_neg (by omega)]
      rw [tot, tot, tot, tot, e0]
      unfold sw2
      rw [if_pos rfl, if_neg (by omega), if_pos rfl]; omega
    · rw [tot, tot, tot_sw h k (by omega)]
      unfold sw2
      rw [if_neg (by omega), if_neg e]
theorem W_sw {f : Nat → Nat} {n k : Nat} (hk : k + 1 < n) (hne : f k ≠ f (k + 1)) : W (sw2 f k) n + lt1 (f (k + 1)) (f k) = W f n + lt1 (f k) (f (k + 1)) := by
  have main : ∀ m, k + 1 < m → W (sw2 f k) m + lt1 (f (k + 1)) (f k) = W f m + lt1 (f k) (f (k + 1)) := by
    intro m
    induction m with
    | zero => intro h; omega
    | succ m ih =>
      intro hm
      by_cases e : m = k + 1
      · subst e
        have e0 : tot (wi (sw2 f k)) k = tot (wi f) k := tot_congr fun i hi => by
          unfold wi
          refine tot_congr fun j hj => ?_
          unfold sw2
          rw [if_neg (by omega), if_neg (by omega), if_neg (by omega), if_neg (by omega)]
        have e1 : wi (sw2 f k) k = tot (fun j => lt1 (f (k + 1)) (f j)) k := by
          unfold wi
          refine tot_congr fun j hj => ?_
          unfold sw2
          rw [if_pos rfl, if_neg (by omega), if_neg (by omega)]
        have e2 : wi (sw2 f k) (k + 1) = tot (fun j => lt1 (f k) (f j)) k + lt1 (f k) (f (k + 1)) := by
          unfold wi
          rw [tot]
          have : tot (fun j => lt1 (sw2 f k (k + 1)) (sw2 f k j)) k = tot (fun j => lt1 (f k) (f j)) k := tot_congr fun j hj => by
            unfold sw2
            rw [if_neg (by omega), if_pos rfl, if_neg (by omega), if_neg (by omega)]
          rw [this]
          unfold sw2
          rw [if_neg (by omega), if_pos rfl, if_pos rfl]
        have e3 : wi f (k + 1) = tot (fun j => lt1 (f (k + 1)) (f j)) k + lt1 (f (k + 1)) (f k) := rfl
        have e4 : wi f k = tot (fun j => lt1 (f k) (f j)) k := rfl
        show tot (wi (sw2 f k)) k + wi (sw2 f k) k + wi (sw2 f k) (k + 1) + _ = tot (wi f) k + wi f k + wi f (k + 1) + _
        rw [e0, e1, e2, e3, e4]
        omega
      · have ih := ih (by omega)
        have e1 : wi (sw2 f k) m = wi f m := by
          unfold wi
          have : ∀ j, j < m → lt1 (sw2 f k m) (sw2 f k j) = sw2 (fun j => lt1 (f m) (f j)) k j := fun j _ => by
            unfold sw2
            rw [if_neg (show ¬ m = k by omega), if_neg e]
            by_cases h1 : j = k
            · rw [if_pos h1, if_pos h1]
            · rw [if_neg h1, if_neg h1]
              by_cases h2 : j = k + 1
              · rw [if_pos h2, if_pos h2]
              · rw [if_neg h2, if_neg h2]
          rw [tot_congr this, tot_sw _ _ (by omega)]
        unfold W at ih ⊢
        rw [tot, tot, e1]
        omega
  exact main n hk
end Go.Proofs.Ytdneljpimocgfaa.permPairs
