/- How often each one is taken. No condition. -/
import Derived.Test.YthkbcgafpaomnaaLaw
set_option linter.unusedSimpArgs false
set_option linter.unusedVariables false
namespace Go.Proofs.Ythkbcgafpaomnaa
theorem tk_count (zs : List Int) (many start sum : Int) (hs : 0 < sum) (n : Nat) (hn : n ≤ zs.length) (k : Nat) (hk : k < n) :
    (tk zs many start sum n).count (k : Int) = L zs many start sum (k + 1) - L zs many start sum k := by
  induction n with
  | zero => omega
  | succ m ih =>
    rw [tk, List.count_append, List.count_replicate]
    by_cases e : k = m
    · subst e
      have h0 : (tk zs many start sum k).count (k : Int) = 0 := by
        rw [List.count_eq_zero]
        intro hm
        obtain ⟨i, h1, h2, _⟩ := tk_mem zs many start sum hs k (by omega) _ hm
        omega
      rw [h0]; simp
    · rw [ih (by omega) (by omega)]
      have : ¬ ((m : Int) == (k : Int)) = true := by simp; omega
      simp [this]
theorem near (zs : List Int) (many start sum : Int) (k : Nat) (hk : k < zs.length) (h : ∀ x ∈ zs, 0 ≤ x ∧ x ≤ 1048576) (hm : 0 ≤ many) (h0 : 0 ≤ start) (h1 : start < sum) :
    ((L zs many start sum (k + 1) - L zs many start sum k : Nat) : Int) * sum ≤ zs.getD k 0 * many + sum - 1 ∧
    zs.getD k 0 * many < (((L zs many start sum (k + 1) - L zs many start sum k : Nat) : Int) + 1) * sum := by
  have hs : 0 < sum := by omega
  have hab := L_mono zs many start sum k hk h hm hs
  have hE := E_succ zs many k hk
  have g1 : E zs many k ≤ start + (L zs many start sum k : Nat) * sum := cnt_ge hs
  have g2 : E zs many (k + 1) ≤ start + (L zs many start sum (k + 1) : Nat) * sum := cnt_ge hs
  have g3 : L zs many start sum k = 0 ∨ start + ((L zs many start sum k : Nat) - 1 : Int) * sum < E zs many k := by
    rcases Nat.eq_zero_or_pos (L zs many start sum k) with h | h
    · exact .inl h
    · right
      have := (lt_cnt (start := start) (x := E zs many k) hs (L zs many start sum k - 1)).1 (by unfold L at h ⊢; omega)
      rw [show ((L zs many start sum k - 1 : Nat) : Int) = (L zs many start sum k : Int) - 1 by omega] at this
      exact this
  have g4 : L zs many start sum (k + 1) = 0 ∨ start + ((L zs many start sum (k + 1) : Nat) - 1 : Int) * sum < E zs many (k + 1) := by
    rcases Nat.eq_zero_or_pos (L zs many start sum (k + 1)) with h | h
    · exact .inl h
    · right
      have := (lt_cnt (start := start) (x := E zs many (k + 1)) hs (L zs many start sum (k + 1) - 1)).1 (by unfold L at h ⊢; omega)
      rw [show ((L zs many start sum (k + 1) - 1 : Nat) : Int) = (L zs many start sum (k + 1) : Int) - 1 by omega] at this
      exact this
  have hE0 : 0 ≤ E zs many k := Int.mul_nonneg (sum_bd _ (take_ok zs k h)).1 hm
  have hw := Int.mul_nonneg (h _ (getD_mem zs k hk)).1 hm
  generalize L zs many start sum k = a at *
  generalize L zs many start sum (k + 1) = b at *
  generalize zs.getD k 0 * many = wm at *
  rw [show ((b - a : Nat) : Int) = (b : Int) - a by omega]
  simp only [Int.sub_mul, Int.add_mul, Int.one_mul] at *
  have hpa : 0 ≤ (a : Int) * sum := Int.mul_nonneg (by omega) (by omega)
  have hba : (a : Int) * sum ≤ (b : Int) * sum := Int.mul_le_mul_of_nonneg_right (by omega) (by omega)
  have ha0 : a = 0 → (a : Int) * sum = 0 := fun e => by rw [e]; simp
  have hb0 : b = 0 → (b : Int) * sum = 0 := fun e => by rw [e]; simp
  generalize (a : Int) * sum = x at *
  generalize (b : Int) * sum = y at *
  constructor
  · rcases g4 with g4 | g4
    · have := hb0 g4; omega
    · omega
  · rcases g3 with g3 | g3
    · have := ha0 g3; omega
    · omega
theorem L_le (zs : List Int) (many start sum : Int) (k : Nat) (hk : k + 1 ≤ zs.length) (h : ∀ x ∈ zs, 0 ≤ x ∧ x ≤ 1048576) (hm : 0 ≤ many) (hs : 0 < sum) : L zs many start sum (k + 1) ≤ L zs many start sum zs.length := by
  have : ∀ d j, j + d = zs.length → L zs many start sum j ≤ L zs many start sum zs.length := by
    intro d
    induction d with
    | zero => intro j hj; rw [show j = zs.length by omega]; omega
    | succ d ih => intro j hj; exact Nat.le_trans (L_mono zs many start sum j (by omega) h hm hs) (ih (j + 1) (by omega))
  exact this (zs.length - (k + 1)) (k + 1) (by omega)
end Go.Proofs.Ythkbcgafpaomnaa
