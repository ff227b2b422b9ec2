/- Determinants as chain.det reckons them: plain. No condition. -/
import Derived.Test.YtidnmdfpnmahpaaWrong
set_option linter.unusedSimpArgs false
set_option linter.unusedVariables false
set_option maxRecDepth 20000
namespace Go.Proofs.Ytidnmdfpnmahpaa
def sgn (c : Nat) : Int := if c % 2 = 0 then 1 else -1
theorem sgn_succ (c : Nat) : sgn (c + 1) = -sgn c := by
  unfold sgn
  by_cases h : c % 2 = 0
  · rw [if_neg (by omega), if_pos h]
  · rw [if_pos (by omega), if_neg h]; rfl
theorem sgn_cases (c : Nat) : sgn c = 1 ∨ sgn c = -1 := by unfold sgn; split <;> simp
def minorL (rows : List (List Int)) (c : Nat) : List (List Int) := rows.map fun r => r.eraseIdx c
def accD (D : Nat → Int) (r : List Int) : Nat → Int
  | 0 => 0
  | c + 1 => accD D r c + sgn c * r.getD c 0 * D c
def detL : Nat → List (List Int) → Int
  | 0, _ => 1
  | k + 1, M => accD (fun c => detL k (minorL M.tail c)) (M.getD 0 []) (k + 1)
/-- A matrix of k rows of k numbers, none beyond 45. -/
def Sq (k : Nat) (M : List (List Int)) : Prop := M.length = k ∧ ∀ r ∈ M, r.length = k ∧ ∀ x ∈ r, -45 ≤ x ∧ x ≤ 45
theorem Sq.minor {k : Nat} {M : List (List Int)} (h : Sq (k + 1) M) (c : Nat) (hc : c ≤ k) : Sq k (minorL M.tail c) := by
  refine ⟨?_, fun r hr => ?_⟩
  · unfold minorL; rw [List.length_map, List.length_tail, h.1]; rfl
  · unfold minorL at hr
    obtain ⟨q, hq, rfl⟩ := List.mem_map.1 hr
    obtain ⟨h1, h2⟩ := h.2 q (List.mem_of_mem_tail hq)
    exact ⟨by rw [List.length_eraseIdx_of_lt (by omega), h1]; rfl, fun x hx => h2 x (List.mem_of_mem_eraseIdx hx)⟩
def bdD : Nat → Int
  | 0 => 1
  | k + 1 => (k + 1) * 45 * bdD k
theorem accD_bd (D : Nat → Int) (r : List Int) (B : Int) (hB : 0 ≤ B) : ∀ c, c ≤ r.length → (∀ x ∈ r, -45 ≤ x ∧ x ≤ 45) → (∀ i, i < c → -B ≤ D i ∧ D i ≤ B) → -(c * (45 * B)) ≤ accD D r c ∧ accD D r c ≤ c * (45 * B)
  | 0, _, _, _ => by simp [accD]
  | c + 1, hc, hr, hD => by
    obtain ⟨h1, h2⟩ := accD_bd D r B hB c (by omega) hr (fun i hi => hD i (by omega))
    obtain ⟨x1, x2⟩ := hr (r.getD c 0) (by rw [List.getD_eq_getElem?_getD, List.getElem?_eq_getElem (by omega)]; exact List.getElem_mem _)
    obtain ⟨d1, d2⟩ := hD c (by omega)
    have e : ((c + 1 : Nat) : Int) * (45 * B) = c * (45 * B) + 45 * B := by rw [Int.natCast_add, Int.add_mul]; simp
    rw [e]
    unfold accD
    have key : -(45 * B) ≤ r.getD c 0 * D c ∧ r.getD c 0 * D c ≤ 45 * B := by
      generalize r.getD c 0 = x at *
      generalize D c = d at *
      have a1 : 0 ≤ (45 - x) * (B - d) := Int.mul_nonneg (by omega) (by omega)
      have a2 : 0 ≤ (45 + x) * (B + d) := Int.mul_nonneg (by omega) (by omega)
      have a3 : 0 ≤ (45 - x) * (B + d) := Int.mul_nonneg (by omega) (by omega)
      have a4 : 0 ≤ (45 + x) * (B - d) := Int.mul_nonneg (by omega) (by omega)
      constructor
      · grind
      · grind
    rcases sgn_cases c with h | h
    · rw [h, Int.one_mul]; omega
    · rw [h, Int.neg_one_mul, Int.neg_mul]; omega
theorem bdD_nn : ∀ k, 0 ≤ bdD k
  | 0 => by decide
  | k + 1 => by unfold bdD; exact Int.mul_nonneg (Int.mul_nonneg (by omega) (by decide)) (bdD_nn k)
theorem detL_bd : ∀ k M, Sq k M → -bdD k ≤ detL k M ∧ detL k M ≤ bdD k
  | 0, M, _ => by show -1 ≤ (1 : Int) ∧ (1 : Int) ≤ 1; decide
  | k + 1, M, h => by
    have hr := h.2 (M.getD 0 []) (by rw [List.getD_eq_getElem?_getD, List.getElem?_eq_getElem (by rw [h.1]; omega)]; exact List.getElem_mem _)
    have := accD_bd (fun c => detL k (minorL M.tail c)) (M.getD 0 []) (bdD k) (bdD_nn k) (k + 1) (by omega) hr.2 (fun i hi => detL_bd k _ (h.minor i (by omega)))
    unfold detL
    rw [show bdD (k + 1) = ((k + 1 : Nat) : Int) * (45 * bdD k) by rw [← Int.mul_assoc]; rfl]
    exact this
theorem bdD_le : ∀ k, k ≤ 4 → bdD k ≤ 98415000 := by decide
/-- All sums so far, too. -/
theorem acc_bd {k : Nat} (hk : k ≤ 3) {M : List (List Int)} (h : Sq (k + 1) M) (c : Nat) (hc : c ≤ k + 1) : -98415000 ≤ accD (fun c => detL k (minorL M.tail c)) (M.getD 0 []) c ∧ accD (fun c => detL k (minorL M.tail c)) (M.getD 0 []) c ≤ 98415000 := by
  have hr := h.2 (M.getD 0 []) (by rw [List.getD_eq_getElem?_getD, List.getElem?_eq_getElem (by rw [h.1]; omega)]; exact List.getElem_mem _)
  have h1 := accD_bd (fun c => detL k (minorL M.tail c)) (M.getD 0 []) (bdD k) (bdD_nn k) c (by omega) hr.2 (fun i hi => detL_bd k _ (h.minor i (by omega)))
  have h2 : bdD k ≤ 546750 := (show ∀ k : Nat, k ≤ 3 → bdD k ≤ 546750 by decide) k hk
  have h3 := bdD_nn k
  have h4 : (c : Int) * (45 * bdD k) ≤ 4 * (45 * bdD k) := Int.mul_le_mul_of_nonneg_right (by omega) (by omega)
  omega
end Go.Proofs.Ytidnmdfpnmahpaa
