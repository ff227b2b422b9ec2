/- Two parts of a way join at whatever height is between. No condition. -/
import Derived.Test.YtbdlfiabijajfaaPartsLaw
set_option linter.unusedSimpArgs false
set_option linter.unusedVariables false
namespace Go.Proofs.Ytbdlfiabijajfaa
theorem fr0 (x : Int) : fr 0 x = if x = 0 then 1 else 0 := by
  by_cases h : x = 0
  · subst h; rw [if_pos rfl]; decide +kernel
  · rw [if_neg h, fr_zero 0 x (by omega)]
theorem mul_ne {k T a : Int} (hT : 0 < T) (hk : k ≠ 0) (h1 : -(2 * T) < a) (h2 : a < 2 * T) : a + 2 * k * T ≠ 0 := by
  intro e
  rcases Int.lt_or_gt_of_ne hk with h | h
  · have : (2 * k) * T ≤ (-2) * T := Int.mul_le_mul_of_nonneg_right (by omega) (by omega)
    omega
  · have : 2 * T ≤ (2 * k) * T := Int.mul_le_mul_of_nonneg_right (by omega) (by omega)
    omega
theorem tm0 (f t T k : Int) (hf : 0 < f) (hfT : f < T) (ht : 0 < t) (htT : t < T) : tm 0 f t T k = if k = 0 ∧ f = t then 1 else 0 := by
  unfold tm
  rw [fr0, fr0]
  by_cases hk : k = 0
  · subst hk
    rw [if_neg (show ¬ (t + f + 2 * 0 * T = 0) by omega)]
    by_cases e : f = t
    · rw [if_pos (by omega), if_pos ⟨rfl, e⟩]; rfl
    · rw [if_neg (by omega), if_neg (fun h => e h.2)]; rfl
  · rw [if_neg (mul_ne (by omega) hk (by omega) (by omega)), if_neg (mul_ne (by omega) hk (by omega) (by omega)), if_neg (fun h => hk h.1)]; rfl
theorem S0 (f t T : Int) (hf : 0 < f) (hfT : f < T) (ht : 0 < t) (htT : t < T) : S 0 f t T = if f = t then 1 else 0 := by
  have key : ∀ j : Nat, bs 0 f t T j = if 56 < j ∧ f = t then 1 else 0 := by
    intro j
    induction j with
    | zero => simp [bs]
    | succ j ih =>
      rw [bs, ih, tm0 f t T _ hf hfT ht htT]
      by_cases e : f = t
      · by_cases h1 : j = 56
        · subst h1; simp [e]
        · by_cases h2 : 56 < j
          · rw [if_pos ⟨h2, e⟩, if_neg (by omega), if_pos ⟨by omega, e⟩]; rfl
          · rw [if_neg (by omega), if_neg (by omega), if_neg (by omega)]; rfl
      · rw [if_neg (fun h => e h.2), if_neg (fun h => e h.2), if_neg (fun h => e h.2)]; rfl
  unfold S
  rw [key]
  simp
theorem S_nonneg (n : Nat) (hn : n ≤ 56) (f T : Int) (hf : 0 < f) (hfT : f < T) : ∀ t, 0 ≤ t → t ≤ T → 0 ≤ S n f t T := by
  induction n with
  | zero =>
    intro t h1 h2
    by_cases a : t = 0
    · subst a; rw [S_low 0 (by omega)]; omega
    · by_cases b : t = T
      · subst b; rw [S_high 0 (by omega) f t hf hfT]; omega
      · rw [S0 f t T hf hfT (by omega) (by omega)]; split <;> omega
  | succ n ih =>
    intro t h1 h2
    by_cases a : t = 0
    · subst a; rw [S_low (n + 1) (by omega)]; omega
    · by_cases b : t = T
      · subst b; rw [S_high (n + 1) (by omega) f t hf hfT]; omega
      · rw [S_succ n (by omega)]
        have := ih (by omega) (t - 1) (by omega) (by omega)
        have := ih (by omega) (t + 1) (by omega) (by omega)
        omega
theorem ab_succ (n : Nat) (hn : n < 56) (f t : Int) : ab (n + 1) f t = ab n f (t - 1) + ab n f (t + 1) := by
  unfold ab
  rw [pascal n hn, pascal n hn, show t - f - 1 = t - 1 - f by omega, show t - f + 1 = t + 1 - f by omega, show t + f - 1 = t - 1 + f by omega, show t + f + 1 = t + 1 + f by omega]
  omega
theorem ab_zero (n : Nat) (hn : n ≤ 56) (f : Int) : ab n f 0 = 0 := by
  unfold ab
  rw [show (0 : Int) - f = -f by omega, fr_neg n hn, show (0 : Int) + f = f by omega]; omega
theorem ab_nonneg (n : Nat) (hn : n ≤ 56) (f : Int) (hf : 0 < f) : ∀ t, 0 ≤ t → 0 ≤ ab n f t := by
  induction n with
  | zero =>
    intro t h1
    unfold ab
    rw [fr0, fr0, if_neg (show ¬ t + f = 0 by omega)]
    split <;> decide
  | succ n ih =>
    intro t h1
    by_cases a : t = 0
    · subst a; rw [ab_zero (n + 1) (by omega)]; omega
    · rw [ab_succ n (by omega)]
      have := ih (by omega) (t - 1) (by omega)
      have := ih (by omega) (t + 1) (by omega)
      omega
theorem S_le_ab (n : Nat) (hn : n ≤ 56) (f T : Int) (hf : 0 < f) (hfT : f < T) : ∀ t, 0 ≤ t → t ≤ T → S n f t T ≤ ab n f t := by
  induction n with
  | zero =>
    intro t h1 h2
    have hp := ab_nonneg 0 (by omega) f hf t h1
    by_cases a : t = 0
    · subst a; rw [S_low 0 (by omega)]; exact hp
    · by_cases b : t = T
      · subst b; rw [S_high 0 (by omega) f t hf hfT]; exact hp
      · rw [S0 f t T hf hfT (by omega) (by omega)]
        by_cases e : f = t
        · rw [if_pos e]; unfold ab; rw [fr0, fr0, if_pos (by omega), if_neg (by omega)]; decide
        · rw [if_neg e]; exact hp
  | succ n ih =>
    intro t h1 h2
    have hp := ab_nonneg (n + 1) hn f hf t h1
    by_cases a : t = 0
    · subst a; rw [S_low (n + 1) (by omega)]; exact hp
    · by_cases b : t = T
      · subst b; rw [S_high (n + 1) (by omega) f t hf hfT]; exact hp
      · rw [S_succ n (by omega), ab_succ n (by omega)]
        have := ih (by omega) (t - 1) (by omega) (by omega)
        have := ih (by omega) (t + 1) (by omega) (by omega)
        omega
/-- The sum over heights 1 to m. -/
def jn (a b : Nat) (f t T : Int) : Nat → Int
  | 0 => 0
  | m + 1 => jn a b f t T m + S a f ((m : Int) + 1) T * S b ((m : Int) + 1) t T
theorem jn_zero (a b : Nat) (f t T : Int) (h : ∀ h : Int, 0 < h → h < T → S b h t T = 0) : ∀ m : Nat, (m : Int) < T → jn a b f t T m = 0 := by
  intro m
  induction m with
  | zero => intro _; rfl
  | succ m ih => intro hm; rw [jn, ih (by omega), h _ (by omega) (by omega)]; simp
theorem jn_succ (a b : Nat) (hb : b < 56) (f t T : Int) : ∀ m, jn a (b + 1) f t T m = jn a b f (t - 1) T m + jn a b f (t + 1) T m := by
  intro m
  induction m with
  | zero => rfl
  | succ m ih => rw [jn, jn, jn, ih, S_succ b hb, Int.mul_add]; omega
theorem jn_start (a : Nat) (f t T : Int) (ht : 0 < t) (htT : t < T) : ∀ m : Nat, (m : Int) < T → jn a 0 f t T m = if t ≤ (m : Int) then S a f t T else 0 := by
  intro m
  induction m with
  | zero => intro _; rw [if_neg (by omega)]; rfl
  | succ m ih =>
    intro hm
    rw [jn, ih (by omega), S0 _ t T (by omega) (by omega) ht htT]
    by_cases e : (m : Int) + 1 = t
    · rw [if_neg (by omega), if_pos e, if_pos (by omega), e]; omega
    · rw [if_neg e]
      by_cases l : t ≤ (m : Int)
      · rw [if_pos l, if_pos (by omega)]; omega
      · rw [if_neg l, if_neg (by omega)]; omega
theorem join (a : Nat) (f T : Int) (hf : 0 < f) (hfT : f < T) (m : Nat) (hm : (m : Int) + 1 = T) : ∀ b, a + b ≤ 56 → ∀ t, 0 ≤ t → t ≤ T → jn a b f t T m = S (a + b) f t T := by
  intro b
  induction b with
  | zero =>
    intro hab t h1 h2
    by_cases c1 : t = 0
    · subst c1
      rw [jn_zero a 0 f 0 T (fun h _ _ => S_low 0 (by omega) h T) m (by omega), Nat.add_zero, S_low a (by omega)]
    · by_cases c2 : t = T
      · subst c2
        rw [jn_zero a 0 f t t (fun h p q => S_high 0 (by omega) h t p q) m (by omega), Nat.add_zero, S_high a (by omega) f t hf hfT]
      · rw [jn_start a f t T (by omega) (by omega) m (by omega), if_pos (by omega)]; rfl
  | succ b ih =>
    intro hab t h1 h2
    by_cases c1 : t = 0
    · subst c1
      rw [jn_zero a (b + 1) f 0 T (fun h _ _ => S_low (b + 1) (by omega) h T) m (by omega), S_low (a + (b + 1)) (by omega)]
    · by_cases c2 : t = T
      · subst c2
        rw [jn_zero a (b + 1) f t t (fun h p q => S_high (b + 1) (by omega) h t p q) m (by omega), S_high (a + (b + 1)) (by omega) f t hf hfT]
      · rw [jn_succ a b (by omega), ih (by omega) (t - 1) (by omega) (by omega), ih (by omega) (t + 1) (by omega) (by omega), ← Nat.add_assoc, S_succ (a + b) (by omega)]
end Go.Proofs.Ytbdlfiabijajfaa
