/- Heavy ones and light ones together: plain. No condition. -/
import Derived.Test.YtkmjjckpolopgaaHv
set_option linter.unusedSimpArgs false
set_option linter.unusedVariables false
namespace Go.Proofs.Ytkmjjckpolopgaa
def hs (N D : Int) : List Int → Int
  | [] => 0
  | x :: l => (if isH N D x = true then x * D else 0) + hs N D l
def hc (N D : Int) : List Int → Int
  | [] => 0
  | x :: l => (if isH N D x = true then 1 else 0) + hc N D l
theorem hs_app (N D : Int) : ∀ l m : List Int, hs N D (l ++ m) = hs N D l + hs N D m
  | [], m => by simp [hs]
  | x :: l, m => by simp only [List.cons_append, hs, hs_app N D l m]; omega
theorem hc_app (N D : Int) : ∀ l m : List Int, hc N D (l ++ m) = hc N D l + hc N D m
  | [], m => by simp [hc]
  | x :: l, m => by simp only [List.cons_append, hc, hc_app N D l m]; omega
theorem hs_take (N D : Int) (l : List Int) (k : Nat) (h : k < l.length) : hs N D (l.take (k + 1)) = hs N D (l.take k) + (if isH N D (l.getD k 0) = true then l.getD k 0 * D else 0) := by
  rw [take_s l k h, hs_app]; simp [hs]
theorem hc_take (N D : Int) (l : List Int) (k : Nat) (h : k < l.length) : hc N D (l.take (k + 1)) = hc N D (l.take k) + (if isH N D (l.getD k 0) = true then 1 else 0) := by
  rw [take_s l k h, hc_app]; simp [hc]
theorem mn_take (N D : Int) (l : List Int) (k : Nat) (h : k < l.length) : mn N D (l.take (k + 1)) = mn N D (l.take k) + min (l.getD k 0 * D) N := by
  rw [take_s l k h, mn_app]; simp [mn]
theorem isH_min {N D x : Int} (hD : 1 ≤ D) : min (x * D) N = if isH N D x = true then N else x * D := by
  have : isH N D x = true ↔ N ≤ x * D := by simp [isH]; omega
  by_cases h : N ≤ x * D
  · rw [if_pos (this.2 h)]; omega
  · rw [if_neg (fun g => h (this.1 g))]; omega
theorem mn_hs {N D : Int} (hD : 1 ≤ D) : ∀ l : List Int, mn N D l = hc N D l * N + (sm l * D - hs N D l)
  | [] => by simp [mn, hc, sm, hs]
  | x :: l => by
    have ih := mn_hs (N := N) hD l
    simp only [mn, hc, sm, hs, isH_min hD, ih]
    split <;> grind
theorem hc_bd (N D : Int) : ∀ l : List Int, 0 ≤ hc N D l ∧ hc N D l ≤ l.length
  | [] => by simp [hc]
  | x :: l => by
    have ih := hc_bd N D l
    simp only [hc, List.length_cons]
    split <;> omega
theorem hs_bd {N D : Int} (hD : 0 ≤ D ∧ D ≤ 400) : ∀ {l : List Int}, Wts l → 0 ≤ hs N D l ∧ hs N D l ≤ l.length * 419430400
  | [], _ => by simp [hs]
  | x :: l, h => by
    have h1 := h x List.mem_cons_self
    have ih := hs_bd (N := N) hD (l := l) fun y hy => h y (List.mem_cons_of_mem _ hy)
    have hxb : 0 ≤ x * D ∧ x * D ≤ 1048576 * 400 := ⟨Int.mul_nonneg (by omega) (by omega), Int.mul_le_mul (by omega) (by omega) (by omega) (by omega)⟩
    simp only [hs, List.length_cons]
    split <;> omega
theorem hs_le_mn {N D : Int} (hD : 1 ≤ D) (hN : 0 ≤ N) : ∀ {l : List Int}, Wts l → hc N D l * N ≤ mn N D l ∧ 0 ≤ mn N D l ∧ mn N D l ≤ l.length * N
  | [], _ => by simp [hc, mn]
  | x :: l, h => by
    have h1 := h x List.mem_cons_self
    have ih := hs_le_mn (N := N) hD hN (l := l) fun y hy => h y (List.mem_cons_of_mem _ hy)
    have hx : 0 ≤ x * D := Int.mul_nonneg (by omega) (by omega)
    have e : ((l.length + 1 : Nat) : Int) * N = (l.length : Int) * N + N := by
      rw [show ((l.length + 1 : Nat) : Int) = (l.length : Int) + 1 by omega, Int.add_mul]; omega
    simp only [hc, mn, List.length_cons, e]
    rw [Int.add_mul]
    by_cases g : isH N D x = true
    · rw [if_pos g]
      have := isH_min (N := N) (x := x) hD
      rw [if_pos g] at this
      omega
    · rw [if_neg g]
      omega
/-- What is kept weighs what all did. -/
theorem sum_law {ws : List Int} {keep : Int} (h : OkD ws keep) (hk : keep < ws.length) :
    hc (lev ws keep).1 (lev ws keep).2 ws ≤ keep ∧ hs (lev ws keep).1 (lev ws keep).2 ws + (keep - hc (lev ws keep).1 (lev ws keep).2 ws) * (lev ws keep).1 = sm ws * (lev ws keep).2 := by
  obtain ⟨a, b, c, d, e⟩ := lev_law h hk
  generalize (lev ws keep).1 = N at *
  generalize (lev ws keep).2 = D at *
  have h1 := mn_hs (N := N) c ws
  have h2 := (hs_le_mn (N := N) c (by omega) h.2.2.2).1
  rw [e] at h1 h2
  refine ⟨Int.le_of_mul_le_mul_right h2 (by omega), ?_⟩
  rw [Int.sub_mul]
  omega
end Go.Proofs.Ytkmjjckpolopgaa
