/- The discrepancy of turned numbers: the plain law. No condition. -/
import Derived.Test.YtoedkeopepanoaaFarDef
set_option linter.unusedSimpArgs false
set_option linter.unusedVariables false
namespace Go.Proofs.Ytoedkeopepanoaa
def cn (P : Nat → Bool) : Nat → Nat
  | 0 => 0
  | n + 1 => cn P n + if P n then 1 else 0
theorem cn_congr {P Q : Nat → Bool} (h : ∀ n, P n = Q n) (N : Nat) : cn P N = cn Q N := by
  induction N with
  | zero => rfl
  | succ n ih => simp only [cn, ih, h n]
theorem cn_add {P Q R : Nat → Bool} (h : ∀ n, (if P n then 1 else 0) = (if Q n then 1 else 0) + (if R n then 1 else 0 : Nat)) (N : Nat) : cn P N = cn Q N + cn R N := by
  induction N with
  | zero => rfl
  | succ n ih => simp only [cn, ih, h n]; omega
theorem succ_dm (p N : Nat) (hp : 0 < p) : ((N + 1) / p = N / p ∧ (N + 1) % p = N % p + 1 ∧ N % p + 1 < p) ∨ ((N + 1) / p = N / p + 1 ∧ (N + 1) % p = 0 ∧ N % p + 1 = p) := by
  have h1 := Nat.div_add_mod N p
  have h2 := Nat.mod_lt N hp
  rcases Nat.lt_or_ge (N % p + 1) p with h | h
  · left
    have e : N + 1 = p * (N / p) + (N % p + 1) := by omega
    refine ⟨?_, ?_, h⟩
    · rw [e, Nat.mul_add_div hp, Nat.div_eq_of_lt h]; omega
    · rw [e, Nat.mul_add_mod, Nat.mod_eq_of_lt h]
  · right
    have e : N + 1 = p * (N / p + 1) := by rw [Nat.mul_add]; omega
    refine ⟨?_, ?_, by omega⟩
    · rw [e, Nat.mul_div_cancel_left _ hp]
    · rw [e, Nat.mul_mod_right]
theorem cn_res (p Y N : Nat) (hp : 0 < p) (hY : Y < p) : cn (fun n => decide (n % p = Y)) N = N / p + if Y < N % p then 1 else 0 := by
  induction N with
  | zero => simp [cn]
  | succ n ih =>
    rw [cn, ih]
    have h0 := Nat.mod_lt n hp
    rcases succ_dm p n hp with ⟨h1, h2, h3⟩ | ⟨h1, h2, h3⟩
    · rw [h1, h2]
      by_cases e : n % p = Y
      · rw [if_neg (by omega), if_pos (by simpa using e), if_pos (by omega)]
      · rw [if_neg (c := (decide (n % p = Y) = true)) (by simpa using e)]
        by_cases l : Y < n % p
        · rw [if_pos l, if_pos (by omega)]
        · rw [if_neg l, if_neg (by omega)]
    · rw [h1, h2]
      by_cases e : n % p = Y
      · rw [if_neg (by omega), if_pos (by simpa using e), if_neg (by omega)]
      · rw [if_neg (c := (decide (n % p = Y) = true)) (by simpa using e), if_pos (by omega), if_neg (by omega)]
theorem cn_low (b r M : Nat) (hb : 0 < b) : cn (fun m => decide (m % b < r)) M = M / b * min b r + min (M % b) r := by
  induction M with
  | zero => simp [cn]
  | succ n ih =>
    rw [cn, ih]
    have h0 := Nat.mod_lt n hb
    rcases succ_dm b n hb with ⟨h1, h2, h3⟩ | ⟨h1, h2, h3⟩
    · rw [h1, h2]
      by_cases e : n % b < r
      · rw [if_pos (by simpa using e)]; omega
      · rw [if_neg (by simpa using e)]; omega
    · rw [h1, h2, Nat.add_mul, Nat.one_mul]
      by_cases e : n % b < r
      · rw [if_pos (by simpa using e)]; omega
      · rw [if_neg (by simpa using e)]; omega
/-- Those of one residue whose quotient has a low digit. -/
theorem cn_two (p b r Y N : Nat) (hp : 0 < p) (hY : Y < p) : cn (fun n => decide (n % p = Y) && decide (n / p % b < r)) N = cn (fun m => decide (m % b < r)) (cn (fun n => decide (n % p = Y)) N) := by
  induction N with
  | zero => rfl
  | succ n ih =>
    have hq := cn_res p Y n hp hY
    rw [cn, ih, cn]
    by_cases e : n % p = Y
    · rw [if_pos (c := (decide (n % p = Y) = true)) (by simpa using e)]
      rw [if_neg (by omega)] at hq
      rw [hq, Nat.add_zero, cn]
      simp [e]
    · simp [e]
def C (b d N X : Nat) : Nat := cn (fun n => decide (ro b n d < X)) N
theorem C_succ (b d N X : Nat) (hb : 0 < b) (hX : X / b < b ^ d) : C b (d + 1) N X = C b d N (X / b) + cn (fun m => decide (m % b < X % b)) (cn (fun n => decide (n % b ^ d = ro b (X / b) d)) N) := by
  have hp : 0 < b ^ d := Nat.pow_pos hb
  rw [← cn_two (b ^ d) b (X % b) (ro b (X / b) d) N hp (ro_lt b _ d hb)]
  unfold C
  apply cn_add
  intro n
  have e0 : ro b n (d + 1) = ro b n d * b + n / b ^ d % b := rfl
  have hm := Nat.mod_lt (n / b ^ d) hb
  have hX2 := Nat.div_add_mod X b
  have hr := Nat.mod_lt X hb
  have hiff : n % b ^ d = ro b (X / b) d ↔ ro b n d = X / b := by
    constructor
    · intro h
      have := ro_ro b (X / b) d hb hX
      rw [← h, ro_mod b n d d (Nat.le_refl _)] at this
      exact this
    · intro h
      rw [← h, ← ro_mod b n d d (Nat.le_refl _), ro_ro b _ d hb (Nat.mod_lt _ hp)]
  rw [e0]
  generalize n / b ^ d % b = t at *
  generalize ro b n d = y at *
  generalize X / b = Q at *
  generalize X % b = s at *
  rcases Nat.lt_trichotomy y Q with h | h | h
  · have h1 : y * b + t < X := by
      have : (y + 1) * b ≤ Q * b := Nat.mul_le_mul_right b h
      rw [Nat.add_mul] at this; rw [Nat.mul_comm b Q] at hX2; omega
    have h2 : ¬ n % b ^ d = ro b Q d := by rw [hiff]; omega
    simp [h1, h, h2]
  · subst h
    have h2 : n % b ^ d = ro b y d := hiff.2 rfl
    have h1 : y * b + t < X ↔ t < s := by rw [Nat.mul_comm b y] at hX2; omega
    simp [h1, h2]
  · have h1 : ¬ y * b + t < X := by
      have : (Q + 1) * b ≤ y * b := Nat.mul_le_mul_right b h
      rw [Nat.add_mul] at this; rw [Nat.mul_comm b Q] at hX2; omega
    have h2 : ¬ n % b ^ d = ro b Q d := by rw [hiff]; omega
    simp [h1, h2, show ¬ y < Q by omega]
end Go.Proofs.Ytoedkeopepanoaa
