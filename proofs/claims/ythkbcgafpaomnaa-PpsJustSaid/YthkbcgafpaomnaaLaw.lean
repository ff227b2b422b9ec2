/- Plain laws on the list that Take makes. No condition. -/
import Derived.Test.YthkbcgafpaomnaaDef
set_option linter.unusedSimpArgs false
set_option linter.unusedVariables false
namespace Go.Proofs.Ythkbcgafpaomnaa
theorem L_all (zs : List Int) (many start : Int) (hm : 0 ≤ many) (h0 : 0 ≤ start) (h1 : start < zs.sum) : (L zs many start zs.sum zs.length : Int) = many := by
  obtain ⟨m, rfl⟩ := Int.eq_ofNat_of_zero_le hm
  have hs : 0 < zs.sum := by omega
  unfold L E
  rw [List.take_length]
  rw [cnt_of hs m]
  · rw [Int.mul_comm]; omega
  · intro j hj
    have h2 : (j : Int) * zs.sum ≤ ((m : Int) - 1) * zs.sum := Int.mul_le_mul_of_nonneg_right (by omega) (by omega)
    rw [Int.sub_mul, Int.one_mul, Int.mul_comm (m : Int)] at h2
    omega
theorem tk_mem (zs : List Int) (many start sum : Int) (hs : 0 < sum) (n : Nat) (hn : n ≤ zs.length) : ∀ x ∈ tk zs many start sum n, ∃ i : Nat, x = (i : Int) ∧ i < n ∧ zs.getD i 0 ≠ 0 := by
  induction n with
  | zero => intro x hx; simp [tk] at hx
  | succ k ih =>
    intro x hx
    rw [tk, List.mem_append] at hx
    rcases hx with hx | hx
    · obtain ⟨i, h1, h2, h3⟩ := ih (by omega) x hx
      exact ⟨i, h1, by omega, h3⟩
    · rw [List.mem_replicate] at hx
      refine ⟨k, hx.2, by omega, fun h0 => hx.1 ?_⟩
      have := E_succ zs many k (by omega)
      rw [h0, Int.zero_mul, Int.add_zero] at this
      unfold L; rw [this]; omega
theorem tk_pair (zs : List Int) (many start sum : Int) (hs : 0 < sum) (n : Nat) (hn : n ≤ zs.length) : (tk zs many start sum n).Pairwise (· ≤ ·) := by
  induction n with
  | zero => simp [tk]
  | succ k ih =>
    rw [tk, List.pairwise_append]
    refine ⟨ih (by omega), ?_, ?_⟩
    · exact List.pairwise_replicate.2 (.inr (Int.le_refl _))
    · intro a ha b hb
      obtain ⟨i, rfl, h2, _⟩ := tk_mem zs many start sum hs k (by omega) a ha
      rw [List.mem_replicate] at hb
      rw [hb.2]; omega
theorem pair_get {l : List Int} (h : l.Pairwise (· ≤ ·)) : ∀ i, i + 1 < l.length → l.getD i 0 ≤ l.getD (i + 1) 0 := by
  intro i hi
  have := List.pairwise_iff_getElem.1 h i (i + 1) (by omega) hi (by omega)
  simpa [List.getD_eq_getElem?_getD, List.getElem?_eq_getElem (show i < l.length by omega), List.getElem?_eq_getElem hi] using this
end Go.Proofs.Ythkbcgafpaomnaa
