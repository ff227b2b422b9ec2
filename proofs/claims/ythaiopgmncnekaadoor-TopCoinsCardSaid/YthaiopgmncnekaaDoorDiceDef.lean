/- Sums; dice as lists of counts. No program in sight. No condition. -/
import Derived.Test.YthaiopgmncnekaaDoorGen
set_option linter.unusedSimpArgs false
set_option linter.unusedVariables false
namespace Go.Proofs.YthaiopgmncnekaaDoor.Dice
/-- The sum over all below k. -/
def tot (g : Nat → Nat) : Nat → Nat
  | 0 => 0
  | k + 1 => tot g k + g k
theorem tot_congr {f g : Nat → Nat} : ∀ {k : Nat}, (∀ i, i < k → f i = g i) → tot f k = tot g k
  | 0, _ => rfl
  | k + 1, h => by rw [tot, tot, tot_congr (fun i hi => h i (by omega)), h k (by omega)]
theorem tot_add (g : Nat → Nat) (a : Nat) : ∀ b, tot g (a + b) = tot g a + tot (fun i => g (a + i)) b
  | 0 => rfl
  | b + 1 => by rw [← Nat.add_assoc, tot, tot, tot_add g a b]; omega
theorem tot_zero : ∀ {g : Nat → Nat} {k : Nat}, (∀ i, i < k → g i = 0) → tot g k = 0
  | _, 0, _ => rfl
  | g, k + 1, h => by rw [tot, tot_zero (fun i hi => h i (by omega)), h k (by omega)]
theorem tot_plus (f g : Nat → Nat) : ∀ k, tot (fun i => f i + g i) k = tot f k + tot g k
  | 0 => rfl
  | k + 1 => by rw [tot, tot, tot, tot_plus f g k]; omega
theorem tot_mul (f : Nat → Nat) (c : Nat) : ∀ k, tot (fun i => c * f i) k = c * tot f k
  | 0 => rfl
  | k + 1 => by rw [tot, tot, tot_mul f c k, Nat.mul_add]
theorem tot_swap (f : Nat → Nat → Nat) (n : Nat) : ∀ m, tot (fun i => tot (f i) n) m = tot (fun j => tot (fun i => f i j) m) n
  | 0 => (tot_zero (fun _ _ => rfl)).symm
  | m + 1 => by
    rw [tot, tot_swap f n m, ← tot_plus]
    rfl
theorem tot_le {f : Nat → Nat} {c : Nat} : ∀ {k : Nat}, (∀ i, i < k → f i ≤ c) → tot f k ≤ k * c
  | 0, _ => Nat.zero_le _
  | k + 1, h => by
    have h1 := tot_le (k := k) (fun i hi => h i (by omega))
    have h2 := h k (by omega)
    rw [tot, Nat.add_mul, Nat.one_mul]; omega
theorem tot_mono2 {f g : Nat → Nat} : ∀ {k : Nat}, (∀ i, i < k → f i ≤ g i) → tot f k ≤ tot g k
  | 0, _ => Nat.le_refl _
  | k + 1, h => by
    have h1 := tot_mono2 (k := k) (fun i hi => h i (by omega))
    have h2 := h k (by omega)
    rw [tot, tot]; omega
theorem tot_shift (h : Nat → Nat) (i m : Nat) : tot (fun k => if i ≤ k then h (k - i) else 0) (i + m) = tot h m := by
  rw [tot_add, tot_zero (fun k hk => by rw [if_neg (by omega)]), Nat.zero_add]
  exact tot_congr fun k _ => by rw [if_pos (by omega), show i + k - i = k by omega]
theorem tot_more (h : Nat → Nat) (n m : Nat) (hnm : n ≤ m) (hz : ∀ j, n ≤ j → h j = 0) : tot h m = tot h n := by
  obtain ⟨c, rfl⟩ : ∃ c, m = n + c := ⟨m - n, by omega⟩
  have e : tot (fun i => h (n + i)) c = 0 := tot_zero fun i _ => hz _ (by omega)
  rw [tot_add, e]; rfl
/-! ### Lists of counts -/
def tabI (n : Nat) (f : Nat → Nat) : List Int := (List.range n).map fun d => (f d : Int)
theorem tabI_len (n : Nat) (f : Nat → Nat) : (tabI n f).length = n := by simp [tabI]
theorem tabI_get (n : Nat) (f : Nat → Nat) (d : Nat) (h : d < n) : (tabI n f).getD d 0 = f d := by
  simp [tabI, List.getD_eq_getElem?_getD, List.getElem?_map, List.getElem?_range, h]
theorem zeros_tabI (n : Nat) : List.replicate n (0 : Int) = tabI n (fun _ => 0) := by
  apply List.ext_getElem (by simp [tabI])
  intro i h1 h2; simp [tabI]
theorem tabI_congr {n : Nat} {f g : Nat → Nat} (h : ∀ d, d < n → f d = g d) : tabI n f = tabI n g := by
  unfold tabI
  apply List.map_congr_left
  intro d hd; rw [h d (List.mem_range.1 hd)]
theorem tabI_set (n : Nat) (f : Nat → Nat) (j : Nat) (x : Nat) : (tabI n f).set j (x : Int) = tabI n (fun d => if d = j then x else f d) := by
  apply List.ext_getElem (by simp [tabI])
  intro i h1 h2
  simp only [tabI, List.getElem_set, List.getElem_map, List.getElem_range]
  by_cases h : j = i
  · subst h; simp
  · rw [if_neg h, if_neg (fun e => h e.symm)]
def RightL (zs : List Int) : Prop := zs.length ≤ 200 ∧ (0 < zs.length → zs.getD (zs.length - 1) 0 ≠ 0) ∧ ∀ i, i < zs.length → 0 ≤ zs.getD i 0 ∧ zs.getD i 0 ≤ 1048576
instance (zs : List Int) : Decidable (RightL zs) := by unfold RightL; exact inferInstance
/-- The count at a place. -/
def nd (zs : List Int) (i : Nat) : Nat := (zs.getD i 0).toNat
theorem nd_out {zs : List Int} {i : Nat} (h : zs.length ≤ i) : nd zs i = 0 := by
  unfold nd; rw [List.getD_eq_getElem?_getD, List.getElem?_eq_none h]; rfl
theorem RightL.at {zs : List Int} (h : RightL zs) {i : Nat} (hi : i < zs.length) : zs.getD i 0 = (nd zs i : Int) ∧ nd zs i ≤ 1048576 := by
  have := h.2.2 i hi
  unfold nd; omega
theorem RightL.le {zs : List Int} (h : RightL zs) (i : Nat) : nd zs i ≤ 1048576 := by
  by_cases hi : i < zs.length
  · exact (h.at hi).2
  · rw [nd_out (by omega)]; omega
theorem nd_tabI (n : Nat) (f : Nat → Nat) (i : Nat) : nd (tabI n f) i = if i < n then f i else 0 := by
  by_cases h : i < n
  · unfold nd; rw [tabI_get _ _ _ h, if_pos h]; simp
  · rw [if_neg h, nd_out (by rw [tabI_len]; omega)]
theorem RightL.tab {zs : List Int} (h : RightL zs) : zs = tabI zs.length (nd zs) := by
  apply List.ext_getElem (by rw [tabI_len])
  intro i h1 h2
  have := (h.at h1).1
  rw [List.getD_eq_getElem?_getD, List.getElem?_eq_getElem h1, Option.getD_some] at this
  simp [tabI, this]
/-- One summand of a sum's count. -/
def term (a b : List Int) (k i : Nat) : Nat := if i ≤ k then nd a i * nd b (k - i) else 0
def conv (a b : List Int) (i k : Nat) : Nat := tot (term a b k) i
def sumL (a b : List Int) : List Int := if a.length = 0 ∨ b.length = 0 then [] else tabI (a.length + b.length - 1) (conv a b a.length)
def ways (a : List Int) : Nat := tot (nd a) a.length
def total (a : List Int) : Nat := tot (fun k => k * nd a k) a.length
theorem term_le {a b : List Int} (ha : RightL a) (hb : RightL b) (k i : Nat) : term a b k i ≤ 1048576 * 1048576 := by
  unfold term
  by_cases h : i ≤ k
  · rw [if_pos h]; exact Nat.mul_le_mul (ha.le _) (hb.le _)
  · rw [if_neg h]; exact Nat.zero_le _
theorem conv_le {a b : List Int} (ha : RightL a) (hb : RightL b) {i : Nat} (hi : i ≤ 200) (k : Nat) : conv a b i k ≤ 200 * (1048576 * 1048576) := by
  have h1 := tot_le (k := i) (fun j _ => term_le ha hb k j)
  have h2 : i * (1048576 * 1048576) ≤ 200 * (1048576 * 1048576) := Nat.mul_le_mul_right _ hi
  exact Nat.le_trans h1 h2
/-- Sums of sums, weighed. -/
theorem conv_tot (a b : List Int) (g : Nat → Nat) (ha : 0 < a.length) (hb : 0 < b.length) :
    tot (fun k => g k * conv a b a.length k) (a.length + b.length - 1) = tot (fun i => tot (fun j => g (i + j) * (nd a i * nd b j)) b.length) a.length := by
  have e1 : ∀ k, g k * conv a b a.length k = tot (fun i => g k * term a b k i) a.length := fun k => by rw [tot_mul]; rfl
  rw [tot_congr (fun k _ => e1 k), tot_swap]
  refine tot_congr fun i hi => ?_
  obtain ⟨m, hm⟩ : ∃ m, a.length + b.length - 1 = i + m := ⟨a.length + b.length - 1 - i, by omega⟩
  rw [hm]
  have e2 : ∀ k, g k * term a b k i = if i ≤ k then (fun j => g (i + j) * (nd a i * nd b j)) (k - i) else 0 := fun k => by
    unfold term
    by_cases h : i ≤ k
    · rw [if_pos h, if_pos h]; simp only; rw [show i + (k - i) = k by omega]
    · rw [if_neg h, if_neg h, Nat.mul_zero]
  rw [tot_congr (fun k _ => e2 k), tot_shift (fun j => g (i + j) * (nd a i * nd b j))]
  exact tot_more _ _ _ (by omega) fun j hj => by rw [nd_out hj]; simp
theorem sumL_ways {a b : List Int} : ways (sumL a b) = ways a * ways b := by
  unfold sumL
  by_cases h : a.length = 0 ∨ b.length = 0
  · rw [if_pos h]
    rcases h with h | h
    · have : ways a = 0 := by unfold ways; rw [h]; rfl
      rw [this, Nat.zero_mul]; rfl
    · have : ways b = 0 := by unfold ways; rw [h]; rfl
      rw [this, Nat.mul_zero]; rfl
  · rw [if_neg h]
    unfold ways
    rw [tabI_len, tot_congr (fun k hk => by rw [nd_tabI, if_pos hk])]
    have := conv_tot a b (fun _ => 1) (by omega) (by omega)
    simp only [Nat.one_mul] at this
    rw [this, tot_congr (fun i _ => tot_mul (nd b) (nd a i) b.length)]
    rw [tot_congr (g := fun i => tot (nd b) b.length * nd a i) (fun i _ => Nat.mul_comm _ _), tot_mul, Nat.mul_comm]
theorem sumL_total {a b : List Int} : total (sumL a b) = total a * ways b + total b * ways a := by
  unfold sumL
  by_cases h : a.length = 0 ∨ b.length = 0
  · rw [if_pos h]
    rcases h with h | h
    · have h1 : ways a = 0 := by unfold ways; rw [h]; rfl
      have h2 : total a = 0 := by unfold total; rw [h]; rfl
      rw [h1, h2, Nat.zero_mul, Nat.mul_zero]; rfl
    · have h1 : ways b = 0 := by unfold ways; rw [h]; rfl
      have h2 : total b = 0 := by unfold total; rw [h]; rfl
      rw [h1, h2, Nat.zero_mul, Nat.mul_zero]; rfl
  · rw [if_neg h]
    have e0 : total (tabI (a.length + b.length - 1) (conv a b a.length)) = tot (fun k => k * conv a b a.length k) (a.length + b.length - 1) := by
      unfold total
      rw [tabI_len]
      exact tot_congr fun k hk => by rw [nd_tabI, if_pos hk]
    rw [e0, conv_tot a b (fun k => k) (by omega) (by omega)]
    have e1 : ∀ i, tot (fun j => (i + j) * (nd a i * nd b j)) b.length = i * nd a i * ways b + nd a i * total b := fun i => by
      rw [tot_congr (g := fun j => i * nd a i * nd b j + nd a i * (j * nd b j)) (fun j _ => by
        rw [Nat.add_mul, Nat.mul_assoc, Nat.mul_left_comm j]), tot_plus, tot_mul, tot_mul]
      rfl
    rw [tot_congr (fun i _ => e1 i), tot_plus]
    rw [tot_congr (g := fun i => ways b * (i * nd a i)) (fun i _ => Nat.mul_comm _ _), tot_mul,
      tot_congr (f := fun i => nd a i * total b) (g := fun i => total b * nd a i) (fun i _ => Nat.mul_comm _ _), tot_mul]
    show ways b * total a + total b * ways a = _
    rw [Nat.mul_comm]
/-! ### Beats -/
def more (a b : List Int) (i j : Nat) : Nat := if j < i then nd a i * nd b j else 0
def same (a b : List Int) (i j : Nat) : Nat := if i = j then nd a i * nd b j else 0
def moreT (a b : List Int) : Nat := tot (fun i => tot (more a b i) b.length) a.length
def sameT (a b : List Int) : Nat := tot (fun i => tot (same a b i) b.length) a.length
theorem same_comm (a b : List Int) : sameT a b = sameT b a := by
  unfold sameT
  rw [tot_swap]
  refine tot_congr fun j _ => tot_congr fun i _ => ?_
  unfold same
  by_cases h : i = j
  · rw [if_pos h, if_pos h.symm, Nat.mul_comm]
  · rw [if_neg h, if_neg (fun e => h e.symm)]
theorem all_three (a b : List Int) : moreT a b + moreT b a + sameT a b = ways a * ways b := by
  have e : moreT b a = tot (fun i => tot (fun j => more b a j i) b.length) a.length := by unfold moreT; rw [tot_swap]
  rw [e]
  unfold moreT sameT ways
  rw [← tot_plus, ← tot_plus]
  rw [tot_congr (g := fun i => tot (nd b) b.length * nd a i) (fun i _ => by
    rw [← tot_plus, ← tot_plus, Nat.mul_comm, ← tot_mul]
    refine tot_congr fun j _ => ?_
    unfold more same
    rcases Nat.lt_trichotomy i j with h | h | h
    · rw [if_neg (by omega), if_pos h, if_neg (by omega), Nat.mul_comm]; omega
    · rw [if_neg (by omega), if_neg (by omega), if_pos h]; omega
    · rw [if_pos h, if_neg (by omega), if_neg (by omega)]; omega), tot_mul, Nat.mul_comm]
theorem nd_pad (a : List Int) (k i : Nat) : nd (List.replicate k 0 ++ a) i = if i < k then 0 else nd a (i - k) := by
  unfold nd
  by_cases h : i < k
  · rw [if_pos h, List.getD_eq_getElem?_getD, List.getElem?_append_left (by simpa using h)]; simp [List.getElem?_replicate, h]
  · rw [if_neg h, List.getD_eq_getElem?_getD, List.getElem?_append_right (by simp; omega)]; simp [List.getD_eq_getElem?_getD]
theorem more_pad (a b : List Int) (k : Nat) : moreT a b ≤ moreT (List.replicate k 0 ++ a) b := by
  unfold moreT
  rw [List.length_append, List.length_replicate, tot_add]
  refine Nat.le_trans ?_ (Nat.le_add_left _ _)
  refine tot_mono2 fun i _ => tot_mono2 fun j _ => ?_
  have e : nd (List.replicate k 0 ++ a) (k + i) = nd a i := by rw [nd_pad, if_neg (by omega), show k + i - k = i by omega]
  unfold more
  rw [e]
  by_cases h : j < i
  · rw [if_pos h, if_pos (by omega)]; exact Nat.le_refl _
  · rw [if_neg h]; exact Nat.zero_le _
/-! ### Greatest -/
def up (a : List Int) (k : Nat) : Nat := tot (nd a) k
def mostL (a b : List Int) : List Int := if a.length = 0 ∨ b.length = 0 then [] else tabI (max a.length b.length) (fun k => up a (k + 1) * up b (k + 1) - up a k * up b k)
theorem up_le {a : List Int} (ha : RightL a) (k : Nat) : up a k ≤ 200 * 1048576 := by
  unfold up
  rcases Nat.le_total k a.length with h | h
  · have h1 := tot_le (k := k) (fun j _ => ha.le j)
    have h2 : k * 1048576 ≤ 200 * 1048576 := Nat.mul_le_mul_right _ (by have := ha.1; omega)
    exact Nat.le_trans h1 h2
  · rw [tot_more (nd a) a.length k h (fun j hj => nd_out hj)]
    have h1 := tot_le (k := a.length) (fun j _ => ha.le j)
    have h2 : a.length * 1048576 ≤ 200 * 1048576 := Nat.mul_le_mul_right _ ha.1
    exact Nat.le_trans h1 h2
theorem up_mono (a : List Int) (k : Nat) : up a k ≤ up a (k + 1) := by unfold up; rw [tot]; omega
def dieL (n : Nat) : List Int := tabI (n + 1) (fun k => if k = 0 then 0 else 1)
def stepL (m n : Nat) : List Int := tabI (m * (n - 1) + 1) (fun k => if k % m = 0 then 1 else 0)
theorem even_all : ((List.range 9).all fun m => (List.range 9).all fun n => decide (sumL (dieL (m + 1)) (stepL (m + 1) (n + 1)) = dieL ((m + 1) * (n + 1)))) = true := by decide +kernel
end Go.Proofs.YthaiopgmncnekaaDoor.Dice
