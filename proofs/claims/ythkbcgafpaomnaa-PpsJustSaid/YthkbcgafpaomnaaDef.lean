/- Plain words for package pps: sums of weights, how often each is taken. No condition. -/
import Derived.Test.YthkbcgafpaomnaaRows
set_option linter.unusedSimpArgs false
set_option linter.unusedVariables false
namespace Go.Proofs.Ythkbcgafpaomnaa
def Good (zs : List Int) (many : Int) : Prop := zs.length ≤ 400 ∧ 1 ≤ many ∧ many ≤ 400 ∧ (∀ x ∈ zs, 0 ≤ x ∧ x ≤ 1048576) ∧ zs.sum ≠ 0
theorem take_sum_succ (zs : List Int) (k : Nat) (hk : k < zs.length) : (zs.take (k + 1)).sum = (zs.take k).sum + zs.getD k 0 := by
  rw [List.take_add_one, List.sum_append, List.getElem?_eq_getElem hk]
  simp [List.getD_eq_getElem?_getD, hk]
theorem sum_bd (zs : List Int) (h : ∀ x ∈ zs, 0 ≤ x ∧ x ≤ 1048576) : 0 ≤ zs.sum ∧ zs.sum ≤ 1048576 * zs.length := by
  induction zs with
  | nil => simp
  | cons a l ih =>
    have h1 := ih fun x hx => h x (by simp [hx])
    have h2 := h a (by simp)
    simp only [List.sum_cons, List.length_cons]
    omega
theorem take_ok (zs : List Int) (k : Nat) (h : ∀ x ∈ zs, 0 ≤ x ∧ x ≤ 1048576) : ∀ x ∈ zs.take k, 0 ≤ x ∧ x ≤ 1048576 := fun x hx => h x (List.mem_of_mem_take hx)
theorem getD_mem (zs : List Int) (k : Nat) (hk : k < zs.length) : zs.getD k 0 ∈ zs := by
  rw [List.getD_eq_getElem?_getD, List.getElem?_eq_getElem hk]; simp
theorem take_ok_succ (zs : List Int) (k : Nat) (hk : k < zs.length) (h : ∀ x ∈ zs.take k, 0 ≤ x ∧ x ≤ 1048576) (h2 : 0 ≤ zs.getD k 0 ∧ zs.getD k 0 ≤ 1048576) : ∀ x ∈ zs.take (k + 1), 0 ≤ x ∧ x ≤ 1048576 := by
  intro x hx
  rw [List.take_add_one, List.getElem?_eq_getElem hk] at hx
  rw [List.mem_append] at hx
  rcases hx with hx | hx
  · exact h x hx
  · rw [List.getD_eq_getElem?_getD, List.getElem?_eq_getElem hk] at h2
    simp at h2 hx
    rw [hx]; exact h2
theorem sum_take_bd (zs : List Int) (k : Nat) (hk : k ≤ 400) (h : ∀ x ∈ zs.take k, 0 ≤ x ∧ x ≤ 1048576) : 0 ≤ (zs.take k).sum ∧ (zs.take k).sum ≤ 419430400 := by
  have h1 := sum_bd _ h
  have h2 : (zs.take k).length ≤ 400 := by rw [List.length_take]; omega
  omega

/-- How many of start, start + sum, start + 2 sum .. lie below x. -/
def cnt (start sum x : Int) : Nat := ((x - start + sum - 1) / sum).toNat
theorem lt_cnt {start sum x : Int} (hs : 0 < sum) (j : Nat) : j < cnt start sum x ↔ start + j * sum < x := by
  unfold cnt
  have h : (j : Int) + 1 ≤ (x - start + sum - 1) / sum ↔ ((j : Int) + 1) * sum ≤ x - start + sum - 1 := Int.le_ediv_iff_mul_le hs
  rw [Int.add_mul, Int.one_mul] at h
  generalize (j : Int) * sum = y at *
  constructor
  · intro h1
    have := h.1 (by omega)
    omega
  · intro h1
    have := h.2 (by omega)
    omega
theorem cnt_of {start sum x : Int} (hs : 0 < sum) (L : Nat) (h1 : x ≤ start + L * sum) (h2 : ∀ j, j < L → start + j * sum < x) : cnt start sum x = L := by
  rcases Nat.lt_trichotomy (cnt start sum x) L with h | h | h
  · have := (lt_cnt hs _).2 (h2 _ h); omega
  · exact h
  · have := (lt_cnt hs _).1 h; omega
theorem cnt_ge {start sum x : Int} (hs : 0 < sum) : x ≤ start + (cnt start sum x : Nat) * sum := by
  have := (lt_cnt (start := start) (x := x) hs (cnt start sum x))
  have h : ¬ cnt start sum x < cnt start sum x := by omega
  rw [this] at h; omega
theorem cnt_mono {start sum x y : Int} (hs : 0 < sum) (h : x ≤ y) : cnt start sum x ≤ cnt start sum y := by
  rcases Nat.lt_or_ge (cnt start sum y) (cnt start sum x) with h1 | h1
  · have h2 := (lt_cnt hs _).1 h1
    have := (lt_cnt (start := start) hs (cnt start sum y)).2 (by omega : _ < y)
    omega
  · exact h1
def E (zs : List Int) (many : Int) (k : Nat) : Int := (zs.take k).sum * many
def L (zs : List Int) (many start sum : Int) (k : Nat) : Nat := cnt start sum (E zs many k)
def tk (zs : List Int) (many start sum : Int) : Nat → List Int
  | 0 => []
  | k + 1 => tk zs many start sum k ++ List.replicate (L zs many start sum (k + 1) - L zs many start sum k) (k : Int)
theorem E_succ (zs : List Int) (many : Int) (k : Nat) (hk : k < zs.length) : E zs many (k + 1) = E zs many k + zs.getD k 0 * many := by
  unfold E; rw [take_sum_succ _ _ hk, Int.add_mul]
theorem E_mono (zs : List Int) (many : Int) (k : Nat) (hk : k < zs.length) (h : ∀ x ∈ zs, 0 ≤ x ∧ x ≤ 1048576) (hm : 0 ≤ many) : E zs many k ≤ E zs many (k + 1) := by
  rw [E_succ _ _ _ hk]
  have := Int.mul_nonneg (h _ (getD_mem zs k hk)).1 hm
  omega
theorem L_mono (zs : List Int) (many start sum : Int) (k : Nat) (hk : k < zs.length) (h : ∀ x ∈ zs, 0 ≤ x ∧ x ≤ 1048576) (hm : 0 ≤ many) (hs : 0 < sum) : L zs many start sum k ≤ L zs many start sum (k + 1) :=
  cnt_mono hs (E_mono zs many k hk h hm)
theorem L_zero (zs : List Int) (many start sum : Int) (h0 : 0 ≤ start) (hs : 0 < sum) : L zs many start sum 0 = 0 := by
  unfold L E
  apply cnt_of hs
  · simp; exact h0
  · intro j hj; omega
theorem tk_len (zs : List Int) (many start sum : Int) (k : Nat) (hk : k ≤ zs.length) (h : ∀ x ∈ zs, 0 ≤ x ∧ x ≤ 1048576) (hm : 0 ≤ many) (h0 : 0 ≤ start) (hs : 0 < sum) : (tk zs many start sum k).length = L zs many start sum k := by
  induction k with
  | zero => simp [tk, L_zero zs many start sum h0 hs]
  | succ k ih =>
    have := L_mono zs many start sum k (by omega) h hm hs
    simp only [tk, List.length_append, List.length_replicate, ih (by omega)]
    omega
theorem mul_bd {a b : Int} (h0 : 0 ≤ a) (h1 : a ≤ 1048576) (h2 : 0 ≤ b) (h3 : b ≤ 400) : 0 ≤ a * b ∧ a * b ≤ 419430400 := by
  refine ⟨Int.mul_nonneg h0 h2, ?_⟩
  have := Int.mul_le_mul h1 h3 h2 (by omega)
  omega
theorem E_bd (zs : List Int) (many : Int) (k : Nat) (hk : zs.length ≤ 400) (h : ∀ x ∈ zs, 0 ≤ x ∧ x ≤ 1048576) (h1 : 0 ≤ many) (h2 : many ≤ 400) : 0 ≤ E zs many k ∧ E zs many k ≤ 167772160000 := by
  unfold E
  have hb := sum_bd _ (take_ok zs k h)
  have hl : (zs.take k).length ≤ 400 := by rw [List.length_take]; omega
  refine ⟨Int.mul_nonneg hb.1 h1, ?_⟩
  have := Int.mul_le_mul (show (zs.take k).sum ≤ 419430400 by omega) h2 h1 (by omega)
  omega
theorem L_step (zs : List Int) (many start sum : Int) (k j : Nat) (hk : k < zs.length) (h : ∀ x ∈ zs, 0 ≤ x ∧ x ≤ 1048576) (hm : 0 ≤ many) (hs : 0 < sum)
    (hge : E zs many (k + 1) ≤ start + ((L zs many start sum k + j : Nat) : Int) * sum) (hlt : j = 0 ∨ start + ((L zs many start sum k + j - 1 : Nat) : Int) * sum < E zs many (k + 1)) : L zs many start sum (k + 1) = L zs many start sum k + j := by
  apply cnt_of hs _ hge
  intro i hi
  rcases hlt with h0 | h0
  · have h1 := (lt_cnt hs i).1 (show i < L zs many start sum k by omega)
    have := E_mono zs many k hk h hm
    omega
  · have : (i : Int) ≤ ((L zs many start sum k + j - 1 : Nat) : Int) := by omega
    have := Int.mul_le_mul_of_nonneg_right this (Int.le_of_lt hs)
    omega
end Go.Proofs.Ythkbcgafpaomnaa
