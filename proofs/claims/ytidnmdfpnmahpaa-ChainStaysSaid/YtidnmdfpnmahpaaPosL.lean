/- Where every state reaches every other, all the determinants are above nought. No condition. -/
import Derived.Test.YtidnmdfpnmahpaaRowL
set_option linter.unusedSimpArgs false
set_option linter.unusedVariables false
set_option maxRecDepth 100000
namespace Go.Proofs.Ytidnmdfpnmahpaa
open Go.RowKit
theorem getD_range {α : Type} (f : Nat → α) (n i : Nat) (d : α) (h : i < n) : ((List.range n).map f).getD i d = f i := by
  rw [List.getD_eq_getElem?_getD, List.getElem?_map, List.getElem?_range h]; rfl
theorem eR_good {n s : Nat} (hs : s < n) : (eR n s).length = n ∧ (∀ x ∈ eR n s, 0 ≤ x ∧ x ≤ 9) ∧ 0 < sumL (eR n s) := by
  have h2 : ∀ x ∈ eR n s, 0 ≤ x ∧ x ≤ 9 := fun x hx => by
    unfold eR at hx
    obtain ⟨k, -, rfl⟩ := List.mem_map.1 hx
    split <;> decide
  refine ⟨by simp [eR], h2, ?_⟩
  have h3 : ∀ (l : List Int), (∀ x ∈ l, 0 ≤ x) → ∀ i, l.getD i 0 ≤ sumL l := by
    intro l
    induction l with
    | nil => intro _ i; simp [sumL]
    | cons x r ih =>
      intro h i
      have h1 := h x List.mem_cons_self
      have h2 := ih fun y hy => h y (List.mem_cons_of_mem _ hy)
      have h3 : 0 ≤ sumL r := by
        have := h2 r.length
        rw [List.getD_eq_getElem?_getD, List.getElem?_eq_none (Nat.le_refl _)] at this
        exact this
      cases i with
      | zero => simp [sumL]; omega
      | succ i => have := h2 i; simp [sumL] at this ⊢; omega
  have h4 := h3 (eR n s) (fun x hx => (h2 x hx).1) s
  have h5 : (eR n s).getD s 0 = 1 := by unfold eR; rw [getD_range _ _ _ _ hs]; simp
  omega
theorem Good.setR {n : Nat} {M : List (List Int)} (h : Good n M) (i : Nat) {s : Nat} (hs : s < n) : Good n (M.set i (eR n s)) := by
  obtain ⟨h1, h2, h3, h4⟩ := h
  refine ⟨by rw [List.length_set]; exact h1, h2, h3, fun r hr => ?_⟩
  rcases List.mem_or_eq_of_mem_set hr with h5 | rfl
  · exact h4 r h5
  · exact eR_good hs
theorem sumK_ge (f : Nat → Int) : ∀ n, (∀ k, k < n → 0 ≤ f k) → 0 ≤ sumK n f ∧ ∀ s, s < n → f s ≤ sumK n f
  | 0, _ => ⟨by simp [sumK], fun s hs => by omega⟩
  | n + 1, h => by
    obtain ⟨h1, h2⟩ := sumK_ge f n fun k hk => h k (by omega)
    have h3 := h n (by omega)
    refine ⟨by show 0 ≤ sumK n f + f n; omega, fun s hs => ?_⟩
    show _ ≤ sumK n f + f n
    rcases Nat.lt_or_ge s n with h4 | h4
    · have := h2 s h4; omega
    · obtain rfl : s = n := by omega
      omega
theorem row_ge {n : Nat} {M : List (List Int)} (h : Good n M) (j i s : Nat) (hj : j < n) (hi : i < n) (hij : i ≠ j) (hs : s < n) : (M.getD i []).getD s 0 * detL (n - 1) (lap (M.set i (eR n s)) n n j) ≤ detL (n - 1) (lap M n n j) := by
  rw [row_sum h j i hj hi hij]
  exact (sumK_ge (fun k => (M.getD i []).getD k 0 * detL (n - 1) (lap (M.set i (eR n k)) n n j)) n (fun k hk => Int.mul_nonneg (h.nn i k) (lap_nn (h.setR i hk) j hj))).2 s hs
theorem lap_root (M : List (List Int)) (n j : Nat) (r : List Int) : lap (M.set j r) n n j = lap M n n j := by
  unfold lap
  refine List.map_congr_left fun i hi => ?_
  have hne : i ≠ j := by
    unfold idxR at hi
    have := (List.mem_filter.1 hi).2
    simpa using this
  have e : (M.set j r).getD i [] = M.getD i [] := by
    rw [List.getD_eq_getElem?_getD, List.getElem?_set_ne (fun e => hne e.symm), List.getD_eq_getElem?_getD]
  unfold lapRow
  refine List.map_congr_left fun k hk => ?_
  unfold lapE
  rw [e]
/-- The first t rows made unit rows. -/
def rowsT (M : List (List Int)) (n : Nat) (p : Nat → Nat) (t : Nat) : List (List Int) := (List.range n).map fun i => if i < t then eR n (p i) else M.getD i []
theorem rowsT_zero {n : Nat} {M : List (List Int)} (h : M.length = n) (p : Nat → Nat) : rowsT M n p 0 = M := by
  apply List.ext_getElem?
  intro i
  unfold rowsT
  rw [List.getElem?_map]
  rcases Nat.lt_or_ge i n with hi | hi
  · rw [List.getElem?_range hi]
    show some (if i < 0 then _ else M.getD i []) = _
    rw [if_neg (by omega), List.getD_eq_getElem?_getD, List.getElem?_eq_getElem (by omega)]; rfl
  · rw [List.getElem?_eq_none (by simpa using hi), List.getElem?_eq_none (by omega)]; rfl
theorem rowsT_succ (M : List (List Int)) (n : Nat) (p : Nat → Nat) (t : Nat) : rowsT M n p (t + 1) = (rowsT M n p t).set t (eR n (p t)) := by
  apply List.ext_getElem?
  intro i
  rw [List.getElem?_set]
  unfold rowsT
  rw [List.getElem?_map, List.getElem?_map]
  simp only [List.length_map, List.length_range]
  rcases Nat.lt_or_ge i n with hi | hi
  · rw [List.getElem?_range hi]
    by_cases e : t = i
    · subst e
      rw [if_pos rfl, if_pos hi]
      show some (if t < t + 1 then _ else _) = _
      rw [if_pos (by omega)]
    · rw [if_neg e]
      show some (if i < t + 1 then _ else _) = some (if i < t then _ else _)
      by_cases h2 : i < t
      · rw [if_pos h2, if_pos (by omega)]
      · rw [if_neg h2, if_neg (by omega)]
  · rw [List.getElem?_eq_none (by simpa using hi)]
    split
    · rename_i e; subst e; rw [if_neg (by omega)]; rfl
    · rfl
theorem rowsT_good {n : Nat} {M : List (List Int)} (h : Good n M) (p : Nat → Nat) (hp : ∀ i, i < n → p i < n) : ∀ t, t ≤ n → Good n (rowsT M n p t)
  | 0, _ => by rw [rowsT_zero h.1]; exact h
  | t + 1, ht => by rw [rowsT_succ]; exact (rowsT_good h p hp t (by omega)).setR t (hp t (by omega))
theorem rowsT_get {n : Nat} (M : List (List Int)) (p : Nat → Nat) (t : Nat) (ht : t < n) : (rowsT M n p t).getD t [] = M.getD t [] := by
  unfold rowsT
  rw [getD_range _ _ _ _ ht, if_neg (by omega)]
theorem det_down {n : Nat} {M : List (List Int)} (h : Good n M) (p : Nat → Nat) (hp : ∀ i, i < n → p i < n) (j : Nat) (hj : j < n) (hpos : ∀ i, i < n → i ≠ j → 0 < (M.getD i []).getD (p i) 0) (hl : 0 < detL (n - 1) (lap (rowsT M n p n) n n j)) :
    ∀ k, k ≤ n → 0 < detL (n - 1) (lap (rowsT M n p (n - k)) n n j)
  | 0, _ => hl
  | k + 1, hk => by
    have ih := det_down h p hp j hj hpos hl k (by omega)
    have e : n - k = n - (k + 1) + 1 := by omega
    rw [e, rowsT_succ] at ih
    generalize ht : n - (k + 1) = t at *
    have htn : t < n := by omega
    by_cases htj : t = j
    · subst htj
      rw [lap_root] at ih
      exact ih
    · have h1 := row_ge (rowsT_good h p hp t (by omega)) j t (p t) hj htn htj (hp t htn)
      rw [rowsT_get M p t htn] at h1
      have h2 := Int.mul_pos (hpos t htn htj) ih
      omega
/-- All rows of so many numbers below n. -/
def allQ (n : Nat) : Nat → List (List Nat)
  | 0 => [[]]
  | m + 1 => (allQ n m).flatMap fun q => (List.range n).map fun x => x :: q
theorem mem_allQ (n : Nat) : ∀ (q : List Nat), (∀ x ∈ q, x < n) → q ∈ allQ n q.length
  | [], _ => List.mem_singleton.2 rfl
  | x :: q, h => List.mem_flatMap.2 ⟨q, mem_allQ n q (fun y hy => h y (List.mem_cons_of_mem _ hy)), List.mem_map.2 ⟨x, List.mem_range.2 (h x List.mem_cons_self), rfl⟩⟩
def itP (p : Nat → Nat) : Nat → Nat → Nat
  | 0, i => i
  | m + 1, i => itP p m (p i)
def chkQ (n j : Nat) (q : List Nat) : Bool := !(q.getD j 0 == j && (List.range n).all fun i => itP (fun x => q.getD x 0) n i == j) || decide (0 < detL (n - 1) (lap (q.map (eR n)) n n j))
def chkN (n : Nat) : Bool := (List.range n).all fun j => (allQ n n).all (chkQ n j)
theorem chk1 : chkN 1 = true := by kernel_rfl
theorem chk2 : chkN 2 = true := by kernel_rfl
theorem chk3 : chkN 3 = true := by kernel_rfl
theorem chk4 : chkN 4 = true := by kernel_rfl
theorem chk5 : chkN 5 = true := by kernel_rfl
end Go.Proofs.Ytidnmdfpnmahpaa
