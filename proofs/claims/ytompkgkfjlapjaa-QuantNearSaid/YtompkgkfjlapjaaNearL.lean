/- Who is found stands near: plain. No condition. -/
import Derived.Test.YtompkgkfjlapjaaQuantTrueW
import Derived.Test.YtompkgkfjlapjaaSorted
set_option linter.unusedSimpArgs false
set_option linter.unusedVariables false
namespace Go.Proofs.Ytompkgkfjlapjaa
open Go.RowKit
def dAt (pl : Int) (l : List Rk) (i : Nat) : Int := dist pl (cnt (l.take (i + 1))) (l.getD i default)
theorem fnd_min (pl : Int) (l : List Rk) (hm : ∀ r ∈ l, 0 ≤ r.More) : ∀ k, k ≤ l.length → 0 < k → ∃ i, i < k ∧ (fndS pl (l.take k)).1 = (l.getD i default).N ∧ (fndS pl (l.take k)).2.1 = dAt pl l i ∧ 0 ≤ (fndS pl (l.take k)).2.1 ∧ ∀ j, j < k → (fndS pl (l.take k)).2.1 ≤ dAt pl l j
  | 0, _, h => absurd h (Nat.lt_irrefl 0)
  | k + 1, hk, _ => by
    have hlow := fndS_low pl l k (by omega)
    have hcs := cnt_succ l k hk
    have hr := hm _ (getD_mem l k hk)
    have hd : dAt pl l k = dist pl (cnt (l.take k) + (l.getD k default).Gap) (l.getD k default) := by unfold dAt; rw [hcs]
    have hd0 : 0 ≤ dAt pl l k := by rw [hd]; unfold dist; omega
    rw [fndS_snoc pl l k hk]
    unfold fstep
    rw [hlow, ← hd]
    rcases Nat.eq_zero_or_pos k with h0 | h0
    · subst h0
      have e : (fndS pl (l.take 0)).2.1 = -1 := by simp [fndS]
      rw [e, if_pos (by omega)]
      exact ⟨0, by omega, rfl, rfl, hd0, fun j hj => by rw [show j = 0 by omega]; exact Int.le_refl _⟩
    · obtain ⟨i, hi, h1, h2, h3, h4⟩ := fnd_min pl l hm k (by omega) h0
      split
      · rename_i hlt
        exact ⟨k, by omega, rfl, rfl, hd0, fun j hj => by
          rcases Nat.lt_succ_iff_lt_or_eq.1 hj with h | h
          · have := h4 j h
            show dAt pl l k ≤ dAt pl l j
            omega
          · rw [h]; exact Int.le_refl _⟩
      · rename_i hlt
        exact ⟨i, by omega, h1, h2, h3, fun j hj => by
          rcases Nat.lt_succ_iff_lt_or_eq.1 hj with h | h
          · exact h4 j h
          · rw [h]; show (fndS pl (l.take k)).2.1 ≤ dAt pl l k; omega⟩
theorem near_some {p pl : Int} {zs : List Int} {l : List Rk} (h : Inv p zs l) (hp : 1 ≤ p) (h1 : 1 ≤ pl) (h2 : pl ≤ zs.length) : ∃ i, i < l.length ∧ dAt pl l i ≤ (zs.length : Int) / p := by
  obtain ⟨e, he⟩ : ∃ e, (zs.length : Int) / p = e := ⟨_, rfl⟩
  have he0 : 0 ≤ e := by rw [← he]; exact Int.ediv_nonneg (by omega) (by omega)
  have hM : max (2 * cnt l / p) 1 ≤ 2 * e + 1 := by
    have h3 : (zs.length : Int) < (e + 1) * p := by rw [← he]; exact Int.lt_ediv_add_one_mul_self _ (by omega)
    have h4 : 2 * cnt l / p < 2 * e + 2 := by
      refine Int.ediv_lt_of_lt_mul (by omega) ?_
      rw [h.all]
      have e1 : (2 * e + 2) * p = 2 * ((e + 1) * p) := by rw [← Int.mul_assoc]; congr 1; omega
      omega
    omega
  have hlen : 0 < l.length := by
    rcases Nat.eq_zero_or_pos l.length with h3 | h3
    · have h4 := List.length_eq_zero_iff.1 h3
      have h5 := h.all
      rw [h4] at h5
      simp only [cnt] at h5
      omega
    · exact h3
  rw [he]
  have key : ∀ k, k ≤ l.length → (∀ i, i < k → cnt (l.take (i + 1)) + (l.getD i default).More ≤ pl + e) ∨ ∃ i, i < l.length ∧ dAt pl l i ≤ e := by
    intro k
    induction k with
    | zero => intro _; exact .inl fun i hi => absurd hi (Nat.not_lt_zero _)
    | succ k ih =>
      intro hk
      rcases ih (by omega) with h3 | h3
      · by_cases h4 : cnt (l.take (k + 1)) + (l.getD k default).More ≤ pl + e
        · exact .inl fun i hi => by
            rcases Nat.lt_succ_iff_lt_or_eq.1 hi with h | h
            · exact h3 i h
            · rw [h]; exact h4
        · right
          have hc := cnt_succ l k hk
          rcases Nat.eq_zero_or_pos k with h0 | h0
          · exfalso
            subst h0
            have hd := h.head (l.getD 0 default) (by
              rw [List.head?_eq_getElem?, List.getD_eq_getElem?_getD, List.getElem?_eq_getElem hk]; rfl)
            simp only [List.take_zero, cnt] at hc
            omega
          · obtain ⟨q, rfl⟩ : ∃ q, k = q + 1 := ⟨k - 1, by omega⟩
            refine ⟨q, by omega, ?_⟩
            have h5 := h3 q (by omega)
            have h6 := h.few _ (getD_mem l (q + 1) hk)
            unfold dAt dist
            omega
      · exact .inr h3
  rcases key l.length (Nat.le_refl _) with h3 | h3
  · obtain ⟨k, hk⟩ : ∃ k, l.length = k + 1 := ⟨l.length - 1, by omega⟩
    refine ⟨k, by omega, ?_⟩
    have h4 := h3 k (by omega)
    have h5 : cnt (l.take (k + 1)) = zs.length := by rw [List.take_of_length_le (by omega), h.all]
    unfold dAt dist
    omega
  · exact h3
/-- Who is found: how many are less, and how many are no more. -/
theorem near_end {p pl : Int} {zs : List Int} {l : List Rk} (h : Inv p zs l) (hp : 1 ≤ p) (h1 : 1 ≤ pl) (h2 : pl ≤ zs.length) (x : Int) (hx : (fndS pl l).1 = x) :
    clt zs x + 1 ≤ cle zs x ∧ max (max (clt zs x + 1 - pl) (pl - cle zs x)) 0 * p ≤ zs.length := by
  obtain ⟨i, hi, hd⟩ := near_some h hp h1 h2
  obtain ⟨j, hj, e1, e2, e3, e4⟩ := fnd_min pl l h.more l.length (Nat.le_refl _) (by omega)
  rw [List.take_length] at e1 e2 e3 e4
  rw [hx] at e1
  obtain ⟨q1, q2, q3, q4⟩ := quantTrue.low_at h.low j hj
  have q5 := quantTrue.same_pos q4
  rw [← e1] at q1 q2 q5
  refine ⟨q5, ?_⟩
  have e5 := e4 i hi
  have e6 : dAt pl l j ≤ (zs.length : Int) / p := by omega
  unfold dAt dist at e6
  have e7 : max (max (clt zs x + 1 - pl) (pl - cle zs x)) 0 ≤ (zs.length : Int) / p := by
    have := Int.ediv_nonneg (a := (zs.length : Int)) (b := p) (by omega) (by omega)
    omega
  have e8 := Int.mul_le_mul_of_nonneg_right e7 (show (0 : Int) ≤ p by omega)
  have e9 := Int.ediv_mul_le (zs.length : Int) (show p ≠ 0 by omega)
  omega
theorem sorted_le {s : List Int} (h : s.Pairwise (· ≤ ·)) {i j : Nat} (hij : i ≤ j) (hj : j < s.length) : s.getD i 0 ≤ s.getD j 0 := by
  rcases Nat.eq_or_lt_of_le hij with h1 | h1
  · rw [h1]; exact Int.le_refl _
  · have := (List.pairwise_iff_getElem.1 h) i j (by omega) hj h1
    simpa [List.getD_eq_getElem?_getD, List.getElem?_eq_getElem (show i < s.length by omega), List.getElem?_eq_getElem hj] using this
theorem count_upto {s : List Int} (q : Int → Bool) (k : Nat) (hk : k ≤ s.length) (h1 : ∀ j, j < k → q (s.getD j 0) = true) (h2 : ∀ j, k ≤ j → j < s.length → q (s.getD j 0) = false) : s.countP q = k := by
  rw [← List.take_append_drop k s, List.countP_append]
  have e1 : (s.take k).countP q = (s.take k).length := by
    rw [List.countP_eq_length]
    intro x hx
    obtain ⟨j, hj, rfl⟩ := List.mem_iff_getElem.1 hx
    rw [List.length_take] at hj
    have := h1 j (by omega)
    rw [List.getD_eq_getElem?_getD, List.getElem?_eq_getElem (by omega)] at this
    simpa using this
  have e2 : (s.drop k).countP q = 0 := by
    rw [List.countP_eq_zero]
    intro x hx
    obtain ⟨j, hj, rfl⟩ := List.mem_iff_getElem.1 hx
    rw [List.length_drop] at hj
    have := h2 (k + j) (by omega) (by omega)
    rw [List.getD_eq_getElem?_getD, List.getElem?_eq_getElem (by omega)] at this
    simpa using this
  rw [e1, e2, List.length_take]; omega
theorem clt_srt (zs : List Int) (x : Int) (k : Nat) (hk : k ≤ zs.length) (h1 : ∀ j, j < k → (srt zs).getD j 0 < x) (h2 : k = zs.length ∨ x ≤ (srt zs).getD k 0) : clt zs x = k := by
  unfold clt
  rw [← (srt_perm zs).countP_eq, count_upto _ k (by rw [srt_len]; exact hk) (fun j hj => by simpa using h1 j hj) (fun j hj hjl => ?_)]
  rw [srt_len] at hjl
  have := sorted_le (srt_up zs) hj (by rw [srt_len]; exact hjl)
  refine decide_eq_false ?_
  omega
theorem cle_srt (zs : List Int) (x : Int) (k : Nat) (hk : k ≤ zs.length) (h1 : ∀ j, j < k → (srt zs).getD j 0 ≤ x) (h2 : k = zs.length ∨ x < (srt zs).getD k 0) : cle zs x = k := by
  unfold cle
  rw [← (srt_perm zs).countP_eq, count_upto _ k (by rw [srt_len]; exact hk) (fun j hj => by simpa using h1 j hj) (fun j hj hjl => ?_)]
  rw [srt_len] at hjl
  have := sorted_le (srt_up zs) hj (by rw [srt_len]; exact hjl)
  refine decide_eq_false ?_
  omega
end Go.Proofs.Ytompkgkfjlapjaa
