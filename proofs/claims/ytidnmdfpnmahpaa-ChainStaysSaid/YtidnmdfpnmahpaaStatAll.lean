/- What chain.Rest answers stands still. No condition. -/
import Derived.Test.YtidnmdfpnmahpaaStatL
import Derived.Test.YtidnmdfpnmahpaaPosAll
import Derived.Test.YtidnmdfpnmahpaaStaysW
set_option linter.unusedSimpArgs false
set_option linter.unusedVariables false
set_option maxRecDepth 100000
namespace Go.Proofs.Ytidnmdfpnmahpaa
open Go.RowKit
theorem sumK2 (f : Nat → Int) : sumK 2 f = f 0 + f 1 := by simp [sumK]
theorem sumK3 (f : Nat → Int) : sumK 3 f = f 0 + f 1 + f 2 := by simp [sumK]
theorem sumK4 (f : Nat → Int) : sumK 4 f = f 0 + f 1 + f 2 + f 3 := by simp [sumK]
theorem sumK5 (f : Nat → Int) : sumK 5 f = f 0 + f 1 + f 2 + f 3 + f 4 := by simp [sumK]
set_option maxHeartbeats 3200000 in
theorem stat_all {n : Nat} {M : List (List Int)} (h : Good n M) (i : Nat) (hi : i < n) : sumK n (fun j => detL (n - 1) (lap M n n j) * (M.getD j []).getD i 0) = detL (n - 1) (lap M n n i) * sumL (M.getD i []) := by
  obtain ⟨h1, h2, h3, h4⟩ := h
  rcases (show n = 1 ∨ n = 2 ∨ n = 3 ∨ n = 4 ∨ n = 5 by omega) with rfl | rfl | rfl | rfl | rfl
  · obtain ⟨r0, rfl⟩ := list1 h1
    obtain ⟨m00, rfl⟩ := list1 (h4 r0 (by simp)).1
    obtain rfl : i = 0 := by omega
    show 0 + detL 0 (lap [[m00]] 1 1 0) * m00 = detL 0 (lap [[m00]] 1 1 0) * (m00 + 0)
    rw [Int.zero_add, Int.add_zero]
  · obtain ⟨r0, r1, rfl⟩ := list2 h1
    obtain ⟨m00, m01, rfl⟩ := list2 (h4 r0 (by simp)).1
    obtain ⟨m10, m11, rfl⟩ := list2 (h4 r1 (by simp)).1
    rw [sumK2]
    rcases (show i = 0 ∨ i = 1 by omega) with rfl | rfl
    · exact stat_2_0 m00 m01 m10 m11
    · exact stat_2_1 m00 m01 m10 m11
  · obtain ⟨r0, r1, r2, rfl⟩ := list3 h1
    obtain ⟨m00, m01, m02, rfl⟩ := list3 (h4 r0 (by simp)).1
    obtain ⟨m10, m11, m12, rfl⟩ := list3 (h4 r1 (by simp)).1
    obtain ⟨m20, m21, m22, rfl⟩ := list3 (h4 r2 (by simp)).1
    rw [sumK3]
    rcases (show i = 0 ∨ i = 1 ∨ i = 2 by omega) with rfl | rfl | rfl
    · exact stat_3_0 m00 m01 m02 m10 m11 m12 m20 m21 m22
    · exact stat_3_1 m00 m01 m02 m10 m11 m12 m20 m21 m22
    · exact stat_3_2 m00 m01 m02 m10 m11 m12 m20 m21 m22
  · obtain ⟨r0, r1, r2, r3, rfl⟩ := list4 h1
    obtain ⟨m00, m01, m02, m03, rfl⟩ := list4 (h4 r0 (by simp)).1
    obtain ⟨m10, m11, m12, m13, rfl⟩ := list4 (h4 r1 (by simp)).1
    obtain ⟨m20, m21, m22, m23, rfl⟩ := list4 (h4 r2 (by simp)).1
    obtain ⟨m30, m31, m32, m33, rfl⟩ := list4 (h4 r3 (by simp)).1
    rw [sumK4]
    rcases (show i = 0 ∨ i = 1 ∨ i = 2 ∨ i = 3 by omega) with rfl | rfl | rfl | rfl
    · exact stat_4_0 m00 m01 m02 m03 m10 m11 m12 m13 m20 m21 m22 m23 m30 m31 m32 m33
    · exact stat_4_1 m00 m01 m02 m03 m10 m11 m12 m13 m20 m21 m22 m23 m30 m31 m32 m33
    · exact stat_4_2 m00 m01 m02 m03 m10 m11 m12 m13 m20 m21 m22 m23 m30 m31 m32 m33
    · exact stat_4_3 m00 m01 m02 m03 m10 m11 m12 m13 m20 m21 m22 m23 m30 m31 m32 m33
  · obtain ⟨r0, r1, r2, r3, r4, rfl⟩ := list5 h1
    obtain ⟨m00, m01, m02, m03, m04, rfl⟩ := list5 (h4 r0 (by simp)).1
    obtain ⟨m10, m11, m12, m13, m14, rfl⟩ := list5 (h4 r1 (by simp)).1
    obtain ⟨m20, m21, m22, m23, m24, rfl⟩ := list5 (h4 r2 (by simp)).1
    obtain ⟨m30, m31, m32, m33, m34, rfl⟩ := list5 (h4 r3 (by simp)).1
    obtain ⟨m40, m41, m42, m43, m44, rfl⟩ := list5 (h4 r4 (by simp)).1
    rw [sumK5]
    rcases (show i = 0 ∨ i = 1 ∨ i = 2 ∨ i = 3 ∨ i = 4 by omega) with rfl | rfl | rfl | rfl | rfl
    · exact stat_5_0 m00 m01 m02 m03 m04 m10 m11 m12 m13 m14 m20 m21 m22 m23 m24 m30 m31 m32 m33 m34 m40 m41 m42 m43 m44
    · exact stat_5_1 m00 m01 m02 m03 m04 m10 m11 m12 m13 m14 m20 m21 m22 m23 m24 m30 m31 m32 m33 m34 m40 m41 m42 m43 m44
    · exact stat_5_2 m00 m01 m02 m03 m04 m10 m11 m12 m13 m14 m20 m21 m22 m23 m24 m30 m31 m32 m33 m34 m40 m41 m42 m43 m44
    · exact stat_5_3 m00 m01 m02 m03 m04 m10 m11 m12 m13 m14 m20 m21 m22 m23 m24 m30 m31 m32 m33 m34 m40 m41 m42 m43 m44
    · exact stat_5_4 m00 m01 m02 m03 m04 m10 m11 m12 m13 m14 m20 m21 m22 m23 m24 m30 m31 m32 m33 m34 m40 m41 m42 m43 m44
theorem flow_eq {n : Nat} {M : List (List Int)} (h : Good n M) (L : List Nat) (c : Nat) (hL : ∀ j, j < n → ((c * L.getD j 0 : Nat) : Int) = detL (n - 1) (lap M n n j) * sumL (M.getD j [])) (i : Nat) :
    ∀ k, k ≤ n → (c : Int) * ((flow M L i k : Nat) : Int) = ((prodS M k : Nat) : Int) * sumK k (fun j => detL (n - 1) (lap M n n j) * (M.getD j []).getD i 0)
  | 0, _ => by show (c : Int) * 0 = 1 * 0; simp
  | k + 1, hk => by
    have ih := flow_eq h L c hL i k (by omega)
    have h1 := hL k (by omega)
    have h2 : ((sN M k : Nat) : Int) = sumL (M.getD k []) := Int.toNat_of_nonneg (by have := (sum_bd45 h k (by omega)).1; omega)
    have h3 : ((wN M k i : Nat) : Int) = (M.getD k []).getD i 0 := Int.toNat_of_nonneg (h.nn k i)
    show (c : Int) * ((flow M L i k * sN M k + L.getD k 0 * wN M k i * prodS M k : Nat) : Int) = ((prodS M k * sN M k : Nat) : Int) * (sumK k _ + detL (n - 1) (lap M n n k) * (M.getD k []).getD i 0)
    rw [Int.natCast_add, Int.natCast_mul, Int.natCast_mul, Int.natCast_mul, Int.natCast_mul, h2, h3]
    rw [Int.natCast_mul] at h1
    generalize sumK k (fun j => detL (n - 1) (lap M n n j) * (M.getD j []).getD i 0) = s at *
    generalize ((flow M L i k : Nat) : Int) = f at *
    generalize ((prodS M k : Nat) : Int) = p at *
    generalize ((L.getD k 0 : Nat) : Int) = l at *
    generalize detL (n - 1) (lap M n n k) = d at *
    generalize sumL (M.getD k []) = t at *
    generalize (M.getD k []).getD i 0 = m at *
    calc (c : Int) * (f * t + l * m * p) = (c * f) * t + (c * l) * m * p := by grind
      _ = (p * s) * t + (d * t) * m * p := by rw [ih, h1]
      _ = p * t * (s + d * m) := by grind
theorem rest_flow {n : Nat} {M : List (List Int)} (h : Good n M) (i : Nat) (hi : i < n) : flow M (restN M n) i n = (restN M n).getD i 0 * prodS M n := by
  obtain ⟨c, h1, h2⟩ := lowN_mul ((List.range n).map (outN M n))
  have hL : ∀ j, j < n → ((c * (restN M n).getD j 0 : Nat) : Int) = detL (n - 1) (lap M n n j) * sumL (M.getD j []) := fun j hj => by
    show ((c * (lowN ((List.range n).map (outN M n))).getD j 0 : Nat) : Int) = _
    rw [← h2 j, restN_get h j hj]; rfl
  have h3 := flow_eq h (restN M n) c hL i n (Nat.le_refl _)
  rw [stat_all h i hi, ← hL i hi, Int.natCast_mul] at h3
  have hc : (c : Int) ≠ 0 := by omega
  have h4 : ((flow M (restN M n) i n : Nat) : Int) = (((restN M n).getD i 0 * prodS M n : Nat) : Int) := by
    apply Int.eq_of_mul_eq_mul_left hc
    rw [h3, Int.natCast_mul]
    generalize ((prodS M n : Nat) : Int) = p
    generalize (((restN M n).getD i 0 : Nat) : Int) = l
    grind
  exact Int.ofNat.inj h4
end Go.Proofs.Ytidnmdfpnmahpaa
