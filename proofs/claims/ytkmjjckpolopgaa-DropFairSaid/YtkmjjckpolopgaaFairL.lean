/- What is told, step by step: plain. No condition. -/
import Derived.Test.YtkmjjckpolopgaaOneL
set_option linter.unusedSimpArgs false
set_option linter.unusedVariables false
namespace Go.Proofs.Ytkmjjckpolopgaa
theorem were_take (N D : Int) : ∀ (l : List Int) (s : List Bool) (k : Nat), k < l.length → k < s.length → were N D (l.take (k + 1)) (s.take (k + 1)) = were N D (l.take k) (s.take k) + (if s.getD k false = true then l.getD k 0 * D * N else 0)
  | [], s, k, h, _ => by simp at h
  | x :: l, [], k, _, h => by simp at h
  | x :: l, b :: s, 0, _, _ => by simp [were]
  | x :: l, b :: s, k + 1, h1, h2 => by
    have ih := were_take N D l s k (by simpa using h1) (by simpa using h2)
    have e1 : (x :: l).getD (k + 1) 0 = l.getD k 0 := by simp
    have e2 : (b :: s).getD (k + 1) false = s.getD k false := by simp
    rw [e1, e2]
    rw [List.take_succ_cons, List.take_succ_cons, List.take_succ_cons, List.take_succ_cons]
    simp only [were]
    rw [ih]
    omega
theorem inn_take (N D : Int) (j : Nat) : ∀ (l : List Int) (s : List Bool) (i k : Nat), k < l.length → k < s.length → inn N D (l.take (k + 1)) (s.take (k + 1)) i j = inn N D (l.take k) (s.take k) i j + (if s.getD k false = true ∧ i + k ≠ j then mx N D (l.getD k 0) else 0)
  | [], s, i, k, h, _ => by simp at h
  | x :: l, [], i, k, _, h => by simp at h
  | x :: l, b :: s, i, 0, _, _ => by simp [inn]
  | x :: l, b :: s, i, k + 1, h1, h2 => by
    have ih := inn_take N D j l s (i + 1) k (by simpa using h1) (by simpa using h2)
    have e1 : (x :: l).getD (k + 1) 0 = l.getD k 0 := by simp
    have e2 : (b :: s).getD (k + 1) false = s.getD k false := by simp
    rw [e1, e2, show i + (k + 1) = i + 1 + k by omega]
    rw [List.take_succ_cons, List.take_succ_cons, List.take_succ_cons, List.take_succ_cons]
    simp only [inn]
    rw [ih]
    omega
theorem tot_take (f : Nat → Int) (T : List Nat) (d k : Nat) (h : T[d]? = some k) : tot f (T.take (d + 1)) = tot f (T.take d) + f k := by
  rw [List.take_add_one, h, tot_app]; simp [tot]
theorem mx_bd {N D x : Int} (hx : 1 ≤ x ∧ x ≤ 1048576) (hD : 1 ≤ D ∧ D ≤ 400) (hN : 1 ≤ N ∧ N ≤ 600) : 0 ≤ mx N D x ∧ mx N D x ≤ 419430400 := by
  have hxb : 0 ≤ x * D ∧ x * D ≤ 1048576 * 400 := ⟨Int.mul_nonneg (by omega) (by omega), Int.mul_le_mul (by omega) (by omega) (by omega) (by omega)⟩
  unfold mx; omega
theorem inn_bd {N D : Int} (hD : 1 ≤ D ∧ D ≤ 400) (hN : 1 ≤ N ∧ N ≤ 600) (j : Nat) : ∀ {l : List Int} (s : List Bool) (i : Nat), Wts l → 0 ≤ inn N D l s i j ∧ inn N D l s i j ≤ l.length * 419430400
  | [], s, i, _ => by simp [inn]
  | x :: l, [], i, _ => by simp only [inn, List.length_cons]; omega
  | x :: l, b :: s, i, h => by
    have h1 := mx_bd (h x List.mem_cons_self) hD hN
    have ih := inn_bd hD hN j (l := l) s (i + 1) fun y hy => h y (List.mem_cons_of_mem _ hy)
    simp only [inn, List.length_cons]
    split <;> omega
theorem were_bd {N D : Int} (hD : 1 ≤ D ∧ D ≤ 400) (hN : 1 ≤ N ∧ N ≤ 600) : ∀ {l : List Int} (s : List Bool), Wts l → 0 ≤ were N D l s ∧ were N D l s ≤ l.length * 251658240000
  | [], s, _ => by simp [were]
  | x :: l, [], _ => by simp only [were, List.length_cons]; omega
  | x :: l, b :: s, h => by
    have hx := h x List.mem_cons_self
    have hxb : 0 ≤ x * D ∧ x * D ≤ 1048576 * 400 := ⟨Int.mul_nonneg (by omega) (by omega), Int.mul_le_mul (by omega) (by omega) (by omega) (by omega)⟩
    have hxn : 0 ≤ x * D * N ∧ x * D * N ≤ 1048576 * 400 * 600 := ⟨Int.mul_nonneg hxb.1 (by omega), Int.mul_le_mul hxb.2 (by omega) (by omega) (by omega)⟩
    have ih := were_bd hD hN (l := l) s fun y hy => h y (List.mem_cons_of_mem _ hy)
    simp only [were, List.length_cons]
    split <;> omega
theorem tot_bd {f : Nat → Int} {c : Int} (hf : ∀ j, 0 ≤ f j ∧ f j ≤ c) : ∀ T : List Nat, 0 ≤ tot f T ∧ tot f T ≤ T.length * c
  | [] => by simp [tot]
  | j :: T => by
    have ih := tot_bd hf T
    have h := hf j
    simp only [tot, List.length_cons]
    rw [show ((T.length + 1 : Nat) : Int) = (T.length : Int) + 1 by omega, Int.add_mul]
    omega
end Go.Proofs.Ytkmjjckpolopgaa
