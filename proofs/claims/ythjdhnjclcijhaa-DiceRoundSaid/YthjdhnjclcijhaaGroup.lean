/- Sums and greatest: in whatever order, however taken together. No program in sight. No condition. -/
import Derived.Test.YthjdhnjclcijhaaDef
set_option linter.unusedSimpArgs false
set_option linter.unusedVariables false
namespace Go.Proofs.Ythjdhnjclcijhaa
def cv (f g : Nat → Nat) (k : Nat) : Nat := tot (fun i => f i * g (k - i)) (k + 1)
theorem tot_first (h : Nat → Nat) (k : Nat) : tot h (k + 1) = h 0 + tot (fun i => h (i + 1)) k := by
  rw [Nat.add_comm k 1, tot_add]
  congr 1
  · show 0 + h 0 = h 0; omega
  · exact tot_congr fun i _ => by rw [Nat.add_comm]
theorem tot_rev (h : Nat → Nat) : ∀ k, tot (fun i => h (k - i)) (k + 1) = tot h (k + 1)
  | 0 => rfl
  | k + 1 => by
    rw [tot_first]
    rw [tot_congr (g := fun i => h (k - i)) (fun i _ => by rw [show k + 1 - (i + 1) = k - i by omega]), tot_rev h k]
    show h (k + 1 - 0) + tot h (k + 1) = tot h (k + 1) + h (k + 1)
    rw [Nat.sub_zero]; omega
theorem cv_comm (f g : Nat → Nat) (k : Nat) : cv f g k = cv g f k := by
  unfold cv
  rw [← tot_rev (fun i => g i * f (k - i)) k]
  exact tot_congr fun i hi => by rw [show k - (k - i) = i by omega, Nat.mul_comm]
theorem cv_congr {f f' g g' : Nat → Nat} (h : ∀ i, f i = f' i) (h2 : ∀ i, g i = g' i) (k : Nat) : cv f g k = cv f' g' k := tot_congr fun i _ => by rw [h, h2]
theorem cv_assoc (f g h : Nat → Nat) (k : Nat) : cv (cv f g) h k = cv f (cv g h) k := by
  have e1 : cv (cv f g) h k = tot (fun p => tot (fun i => if i ≤ p then f i * (g (p - i) * h (k - p)) else 0) (k + 1)) (k + 1) := tot_congr fun p hp => by
    show tot (fun i => f i * g (p - i)) (p + 1) * h (k - p) = _
    rw [Nat.mul_comm, ← tot_mul]
    have hz : ∀ j, p + 1 ≤ j → (if j ≤ p then f j * (g (p - j) * h (k - p)) else 0) = 0 := fun j hj => by rw [if_neg (by omega)]
    rw [tot_more (fun i => if i ≤ p then f i * (g (p - i) * h (k - p)) else 0) (p + 1) (k + 1) (by omega) hz]
    exact tot_congr fun i hi => by rw [if_pos (by omega), Nat.mul_comm, Nat.mul_assoc]
  rw [e1, tot_swap]
  refine tot_congr fun i hi => ?_
  obtain ⟨m, hm⟩ : ∃ m, k + 1 = i + m := ⟨k + 1 - i, by omega⟩
  rw [hm]
  have e2 : ∀ p, (if i ≤ p then f i * (g (p - i) * h (k - p)) else 0) = if i ≤ p then (fun j => f i * (g j * h (k - i - j))) (p - i) else 0 := fun p => by
    by_cases hp : i ≤ p
    · rw [if_pos hp, if_pos hp]; simp only; rw [show k - i - (p - i) = k - p by omega]
    · rw [if_neg hp, if_neg hp]
  rw [tot_congr (fun p _ => e2 p), tot_shift (fun j => f i * (g j * h (k - i - j))), tot_mul]
  show _ = f i * tot (fun j => g j * h (k - i - j)) (k - i + 1)
  rw [show k - i + 1 = m by omega]
theorem conv_cv (a b : List Int) (k : Nat) : conv a b a.length k = cv (nd a) (nd b) k := by
  unfold conv cv
  have h1 : ∀ j, a.length ≤ j → term a b k j = 0 := fun j hj => by unfold term; rw [nd_out hj]; simp
  have h2 : ∀ j, k + 1 ≤ j → term a b k j = 0 := fun j hj => by unfold term; rw [if_neg (by omega)]
  rw [← tot_more (term a b k) a.length (a.length + (k + 1)) (by omega) h1, tot_more (term a b k) (k + 1) (a.length + (k + 1)) (by omega) h2]
  exact tot_congr fun i hi => by unfold term; rw [if_pos (by omega)]
theorem nd_nil (k : Nat) : nd [] k = 0 := nd_out (by simp)
theorem cv_zero {f g : Nat → Nat} (h : ∀ i, f i = 0) (k : Nat) : cv f g k = 0 := tot_zero fun i _ => by rw [h, Nat.zero_mul]
theorem nd_sumL (a b : List Int) (k : Nat) : nd (sumL a b) k = cv (nd a) (nd b) k := by
  unfold sumL
  by_cases h : a.length = 0 ∨ b.length = 0
  · rw [if_pos h, nd_nil]
    rcases h with h | h
    · exact (cv_zero (fun i => nd_out (by omega)) k).symm
    · rw [cv_comm]; exact (cv_zero (fun i => nd_out (by omega)) k).symm
  · rw [if_neg h, nd_tabI]
    by_cases hk : k < a.length + b.length - 1
    · rw [if_pos hk, conv_cv]
    · rw [if_neg hk]
      refine (tot_zero fun i hi => ?_).symm
      by_cases hi2 : a.length ≤ i
      · rw [nd_out hi2, Nat.zero_mul]
      · rw [nd_out (zs := b) (by omega), Nat.mul_zero]
theorem sumL_len (a b : List Int) : (sumL a b).length = if a.length = 0 ∨ b.length = 0 then 0 else a.length + b.length - 1 := by
  unfold sumL
  by_cases h : a.length = 0 ∨ b.length = 0
  · rw [if_pos h, if_pos h]; rfl
  · rw [if_neg h, if_neg h, tabI_len]
/-- A list of counts that are not below 0 is known by its length and its counts. -/
def Cnt (zs : List Int) : Prop := zs = tabI zs.length (nd zs)
theorem cnt_tab (n : Nat) (f : Nat → Nat) : Cnt (tabI n f) := by
  unfold Cnt
  rw [tabI_len]
  exact tabI_congr fun d hd => by rw [nd_tabI, if_pos hd]
theorem cnt_nil : Cnt [] := rfl
theorem sumL_cnt (a b : List Int) : Cnt (sumL a b) := by
  unfold sumL
  by_cases h : a.length = 0 ∨ b.length = 0
  · rw [if_pos h]; exact cnt_nil
  · rw [if_neg h]; exact cnt_tab _ _
theorem cnt_ext {a b : List Int} (ha : Cnt a) (hb : Cnt b) (hl : a.length = b.length) (h : ∀ i, nd a i = nd b i) : a = b := by
  rw [ha, hb, hl]
  exact tabI_congr fun d _ => h d
theorem sumL_comm (a b : List Int) : sumL a b = sumL b a := by
  refine cnt_ext (sumL_cnt _ _) (sumL_cnt _ _) ?_ fun i => by rw [nd_sumL, nd_sumL, cv_comm]
  rw [sumL_len, sumL_len]
  by_cases h : a.length = 0 ∨ b.length = 0
  · rw [if_pos h, if_pos h.symm]
  · rw [if_neg h, if_neg (fun h2 => h h2.symm)]; omega
theorem sumL_assoc (a b c : List Int) : sumL (sumL a b) c = sumL a (sumL b c) := by
  refine cnt_ext (sumL_cnt _ _) (sumL_cnt _ _) ?_ fun i => by
    rw [nd_sumL, nd_sumL, cv_congr (nd_sumL a b) (fun _ => rfl), cv_congr (f := nd a) (f' := nd a) (fun _ => rfl) (nd_sumL b c), cv_assoc]
  rw [sumL_len, sumL_len, sumL_len, sumL_len]
  by_cases h1 : a.length = 0
  · simp [h1]
  · by_cases h2 : b.length = 0
    · simp [h2]
    · by_cases h3 : c.length = 0
      · simp [h3]
      · rw [if_neg (show ¬ (a.length = 0 ∨ b.length = 0) by omega), if_neg (show ¬ (b.length = 0 ∨ c.length = 0) by omega), if_neg (by omega), if_neg (by omega)]; omega
/-! ### Greatest -/
theorem up_more (a : List Int) {n k : Nat} (hn : a.length ≤ n) (hk : n ≤ k) : up a k = up a n := by
  unfold up
  rw [tot_more (nd a) a.length k (by omega) (fun j hj => nd_out hj), tot_more (nd a) a.length n hn (fun j hj => nd_out hj)]
theorem tel (F : Nat → Nat) (h0 : F 0 = 0) (hm : ∀ k, F k ≤ F (k + 1)) : ∀ k, tot (fun i => F (i + 1) - F i) k = F k
  | 0 => h0.symm
  | k + 1 => by rw [tot, tel F h0 hm k]; have := hm k; omega
theorem up_mostL (a b : List Int) (k : Nat) : up (mostL a b) k = up a k * up b k := by
  unfold mostL
  by_cases h : a.length = 0 ∨ b.length = 0
  · rw [if_pos h]
    have e : up [] k = 0 := tot_zero fun i _ => nd_nil i
    rw [e]
    rcases h with h | h
    · have : up a k = 0 := tot_zero fun i _ => nd_out (by omega)
      rw [this, Nat.zero_mul]
    · have : up b k = 0 := tot_zero fun i _ => nd_out (by omega)
      rw [this, Nat.mul_zero]
  · rw [if_neg h]
    generalize hn : max a.length b.length = n
    have key : ∀ k, k ≤ n → up (tabI n (fun k => up a (k + 1) * up b (k + 1) - up a k * up b k)) k = up a k * up b k := fun k hk => by
      have e : up (tabI n (fun k => up a (k + 1) * up b (k + 1) - up a k * up b k)) k = tot (fun i => up a (i + 1) * up b (i + 1) - up a i * up b i) k :=
        tot_congr fun i hi => by rw [nd_tabI, if_pos (by omega)]
      rw [e, tel (fun i => up a i * up b i) (by show up a 0 * up b 0 = 0; rfl) (fun i => Nat.mul_le_mul (up_mono a i) (up_mono b i))]
    by_cases hk : k ≤ n
    · exact key k hk
    · rw [up_more _ (n := n) (by rw [tabI_len]; exact Nat.le_refl _) (by omega), key n (Nat.le_refl _), up_more a (n := n) (k := k) (by omega) (by omega), up_more b (n := n) (k := k) (by omega) (by omega)]
theorem mostL_len (a b : List Int) : (mostL a b).length = if a.length = 0 ∨ b.length = 0 then 0 else max a.length b.length := by
  unfold mostL
  by_cases h : a.length = 0 ∨ b.length = 0
  · rw [if_pos h, if_pos h]; rfl
  · rw [if_neg h, if_neg h, tabI_len]
theorem mostL_comm (a b : List Int) : mostL a b = mostL b a := by
  unfold mostL
  by_cases h : a.length = 0 ∨ b.length = 0
  · rw [if_pos h, if_pos h.symm]
  · rw [if_neg h, if_neg (fun h2 => h h2.symm), Nat.max_comm]
    exact tabI_congr fun k _ => by rw [Nat.mul_comm, Nat.mul_comm (up a k)]
theorem mostL_assoc (a b c : List Int) : mostL (mostL a b) c = mostL a (mostL b c) := by
  have l1 := mostL_len a b
  have l2 := mostL_len b c
  have u1 := up_mostL a b
  have u2 := up_mostL b c
  generalize mostL a b = ab at *
  generalize mostL b c = bc at *
  unfold mostL
  by_cases h1 : a.length = 0
  · rw [if_pos (.inl (by rw [l1, if_pos (.inl h1)])), if_pos (.inl h1)]
  · by_cases h2 : b.length = 0
    · rw [if_pos (.inl (by rw [l1, if_pos (.inr h2)])), if_pos (.inr (by rw [l2, if_pos (.inl h2)]))]
    · by_cases h3 : c.length = 0
      · rw [if_pos (.inr h3), if_pos (.inr (by rw [l2, if_pos (.inr h3)]))]
      · rw [if_neg (by omega)] at l1 l2
        rw [if_neg (by omega), if_neg (by omega), l1, l2, Nat.max_assoc]
        exact tabI_congr fun k _ => by rw [u1, u1, u2, u2, Nat.mul_assoc, Nat.mul_assoc]
end Go.Proofs.Ythjdhnjclcijhaa
