/- Over all starts each one has just its share: the plain law. No condition. -/
import Derived.Test.YthkbcgafpaomnaaLaw2
import Derived.Test.YthkbcgafpaomnaaGen
set_option linter.unusedSimpArgs false
set_option linter.unusedVariables false
namespace Go.Proofs.Ythkbcgafpaomnaa
def sumTo (f : Nat → Int) : Nat → Int
  | 0 => 0
  | n + 1 => sumTo f n + f n
theorem sumTo_sub (f g : Nat → Int) (n : Nat) : sumTo (fun i => f i - g i) n = sumTo f n - sumTo g n := by
  induction n with
  | zero => rfl
  | succ n ih => simp only [sumTo, ih]; omega
theorem sumTo_congr {f g : Nat → Int} {n : Nat} (h : ∀ i, i < n → f i = g i) : sumTo f n = sumTo g n := by
  induction n with
  | zero => rfl
  | succ n ih => simp only [sumTo, ih (fun i hi => h i (by omega)), h n (by omega)]
theorem sumTo_bd {f : Nat → Int} {n : Nat} {b : Int} (h : ∀ i, i < n → 0 ≤ f i ∧ f i ≤ b) : 0 ≤ sumTo f n ∧ sumTo f n ≤ n * b := by
  induction n with
  | zero => simp [sumTo]
  | succ n ih =>
    have h1 := ih (fun i hi => h i (by omega))
    have h2 := h n (by omega)
    simp only [sumTo, Int.natCast_add, Int.add_mul]
    omega
theorem sumTo_ind (q : Int) (r n : Nat) : sumTo (fun i => q + if i < r then 1 else 0) n = q * n + (min n r : Nat) := by
  induction n with
  | zero => simp [sumTo]
  | succ n ih =>
    simp only [sumTo, ih, Int.natCast_add, Int.mul_add]
    by_cases h : n < r
    · simp only [h, if_true]; omega
    · simp only [h, if_false]; omega
theorem cnt_div (s S : Nat) (hS : 0 < S) (hs : s < S) (x : Nat) : cnt s S x = x / S + if s < x % S then 1 else 0 := by
  have hx := Nat.div_add_mod x S
  have hr := Nat.mod_lt x hS
  have hxi : (x : Int) = ((x / S : Nat) : Int) * S + (x % S : Nat) := by
    rw [← Int.natCast_mul, ← Int.natCast_add, Nat.mul_comm, hx]
  generalize x / S = q at *
  generalize x % S = r at *
  apply cnt_of (by omega)
  · rw [hxi]
    split
    · simp only [Int.natCast_add, Int.add_mul]; omega
    · simp only [Nat.add_zero]; omega
  · intro j hj
    rw [hxi]
    split at hj
    · have : (j : Int) * S ≤ (q : Int) * S := Int.mul_le_mul_of_nonneg_right (by omega) (by omega)
      omega
    · have : ((j : Int) + 1) * S ≤ (q : Int) * S := Int.mul_le_mul_of_nonneg_right (by omega) (by omega)
      rw [Int.add_mul] at this
      omega
theorem sum_cnt (S : Nat) (hS : 0 < S) (x : Nat) : sumTo (fun s => (cnt s S x : Int)) S = x := by
  rw [sumTo_congr (g := fun s => ((x / S : Nat) : Int) + if s < x % S then 1 else 0) (fun i hi => by rw [cnt_div i S hS hi x]; split <;> simp), sumTo_ind]
  have hx := Nat.div_add_mod x S
  have hr := Nat.mod_lt x hS
  rw [Nat.min_eq_right (Nat.le_of_lt hr), ← Int.natCast_mul, ← Int.natCast_add, Nat.mul_comm, hx]
/-- How often one is taken over the first starts. -/
def A (zs : List Int) (many : Int) (s k : Nat) : Int := sumTo (fun i => ((tk zs many i zs.sum zs.length).count (k : Int) : Int)) s
theorem A_all (zs : List Int) (many : Int) (k : Nat) (hk : k < zs.length) (h : ∀ x ∈ zs, 0 ≤ x ∧ x ≤ 1048576) (hm : 0 ≤ many) (S : Nat) (hS : zs.sum = S) (hS0 : 0 < S) : A zs many S k = zs.getD k 0 * many := by
  have hE0 : ∀ j, 0 ≤ E zs many j := fun j => Int.mul_nonneg (sum_bd _ (take_ok zs j h)).1 hm
  obtain ⟨x, hx⟩ := Int.eq_ofNat_of_zero_le (hE0 k)
  obtain ⟨y, hy⟩ := Int.eq_ofNat_of_zero_le (hE0 (k + 1))
  have e := E_succ zs many k hk
  unfold A
  rw [hS]
  rw [sumTo_congr (g := fun i => (cnt i S y : Int) - (cnt i S x : Int))]
  · rw [sumTo_sub, sum_cnt S hS0, sum_cnt S hS0]; omega
  · intro i hi
    have hml := L_mono zs many i S k hk h hm (by omega)
    rw [tk_count zs many i S (by omega) zs.length (Nat.le_refl _) k hk]
    unfold L at hml ⊢
    rw [hx, hy] at hml ⊢
    omega
def Acc (c : List Int) (base : Nat → Int) (T : List Int) (i n : Nat) : Prop := c.length = n ∧ ∀ k : Nat, k < n → c.getD k 0 = base k + ((T.take i).count (k : Int) : Int)
theorem Acc.step {c T : List Int} {base : Nat → Int} {i n k : Nat} (h : Acc c base T i n) (hi : i < T.length) (hk : T.getD i 0 = (k : Int)) (hkn : k < n) : Acc (c.set k (c.getD k 0 + 1)) base T (i + 1) n := by
  refine ⟨by simpa using h.1, fun j hj => ?_⟩
  rw [count_take_succ T i _ hi, hk]
  by_cases e : j = k
  · subst e
    rw [if_pos rfl, ← Int.add_assoc, ← h.2 j hj]
    simp [List.getD_eq_getElem?_getD, List.getElem?_set, h.1, hj]
  · rw [if_neg (by omega), Int.add_zero, ← h.2 j hj]
    simp [List.getD_eq_getElem?_getD, List.getElem?_set, show ¬ k = j from fun h => e h.symm]
theorem Acc.bd {c T : List Int} {base : Nat → Int} {i n k : Nat} (h : Acc c base T i n) (hk : k < n) (hb : 0 ≤ base k ∧ base k ≤ 120000) (hT : T.length ≤ 400) : 0 ≤ c.getD k 0 ∧ c.getD k 0 ≤ 120400 := by
  rw [h.2 k hk]
  have := List.count_le_length (a := (k : Int)) (l := T.take i)
  have h2 : (T.take i).length ≤ T.length := by rw [List.length_take]; omega
  omega
theorem A_bd (zs : List Int) (many : Int) (s k : Nat) (hs : s ≤ 300) (h : ∀ x ∈ zs, 0 ≤ x ∧ x ≤ 1048576) (hm : 0 ≤ many) (hm2 : many ≤ 400) (hsum : (s : Int) ≤ zs.sum) (h0 : 0 < zs.sum) : 0 ≤ A zs many s k ∧ A zs many s k ≤ 120000 := by
  have := sumTo_bd (f := fun i => ((tk zs many i zs.sum zs.length).count (k : Int) : Int)) (n := s) (b := 400) (fun i hi => by
    refine ⟨by omega, ?_⟩
    have h1 := List.count_le_length (a := (k : Int)) (l := tk zs many i zs.sum zs.length)
    have h2 := tk_len zs many i zs.sum zs.length (Nat.le_refl _) h hm (by omega) h0
    have h3 := L_all zs many i hm (by omega) (by omega)
    omega)
  unfold A
  omega
theorem Acc.next {c T : List Int} {zs : List Int} {many : Int} {s n : Nat} (h : Acc c (A zs many s) T T.length n) (hT : T = tk zs many s zs.sum zs.length) : Acc c (A zs many (s + 1)) [] 0 n := by
  refine ⟨h.1, fun k hk => ?_⟩
  rw [h.2 k hk, List.take_length]
  simp only [A, sumTo, hT]
  simp
theorem Acc.first {c T : List Int} {base : Nat → Int} {n : Nat} (h : Acc c base [] 0 n) : Acc c base T 0 n := by
  refine ⟨h.1, fun k hk => ?_⟩
  rw [h.2 k hk]; simp
theorem Acc.zero (zs : List Int) (many : Int) (n : Nat) : Acc (List.replicate n 0) (A zs many 0) [] 0 n :=
  ⟨by simp, fun k hk => by simp [A, sumTo, List.getD_eq_getElem?_getD, List.getElem?_replicate, hk]⟩
end Go.Proofs.Ythkbcgafpaomnaa
