/- The discrepancy is at most the base for each digit. No condition. -/
import Derived.Test.YtoedkeopepanoaaFarLaw
set_option linter.unusedSimpArgs false
set_option linter.unusedVariables false
namespace Go.Proofs.Ytoedkeopepanoaa
theorem cn_all {P : Nat → Bool} (h : ∀ n, P n = true) (N : Nat) : cn P N = N := by
  induction N with
  | zero => rfl
  | succ n ih => simp [cn, ih, h n]
theorem cn_none {P : Nat → Bool} (h : ∀ n, P n = false) (N : Nat) : cn P N = 0 := by
  induction N with
  | zero => rfl
  | succ n ih => simp [cn, ih, h n]
def D (b d N X : Nat) : Int := (C b d N X : Int) * ((b ^ d : Nat) : Int) - (N : Int) * (X : Int)
/-- The part of one more digit. -/
theorem part (p b r Y N : Nat) (hp : 0 < p) (hb : 0 < b) (hY : Y < p) (hr : r < b) :
    ∃ F G : Int, ((cn (fun m => decide (m % b < r)) (cn (fun n => decide (n % p = Y)) N) : Nat) : Int) * ((p : Int) * b) - (N : Int) * r = p * F + r * G ∧ 0 ≤ F ∧ F ≤ ((b : Int) - 1) * b ∧ -(p : Int) ≤ G ∧ G ≤ p ∧ (p * b ∣ N → F = 0 ∧ G = 0) := by
  rw [cn_res p Y N hp hY, cn_low b r _ hb]
  generalize hM : (N / p + if Y < N % p then 1 else 0) = M
  have h1 := Nat.div_add_mod N p
  have h2 := Nat.mod_lt N hp
  have h3 := Nat.div_add_mod M b
  have h4 := Nat.mod_lt M hb
  have hmin : min b r = r := Nat.min_eq_right (Nat.le_of_lt hr)
  rw [hmin]
  refine ⟨(min (M % b) r : Nat) * (b : Int) - (M % b : Nat) * (r : Int), (M : Int) * p - N, ?_, ?_, ?_, ?_, ?_, ?_⟩
  · have e : (M : Int) = (b : Int) * (M / b : Nat) + (M % b : Nat) := by rw [← Int.natCast_mul, ← Int.natCast_add, h3]
    generalize M / b = q at *
    generalize M % b = s at *
    generalize min s r = m at *
    rw [Int.natCast_add, Int.natCast_mul, e]
    simp only [Int.mul_sub, Int.add_mul, Int.mul_add]
    have a1 : (q : Int) * r * (p * b) = r * (b * q * p) := by
      simp only [Int.mul_comm, Int.mul_left_comm, Int.mul_assoc]
    have a2 : (m : Int) * (p * b) = p * (m * b) := by simp only [Int.mul_comm, Int.mul_left_comm, Int.mul_assoc]
    have a3 : (r : Int) * (s * p) = p * (s * r) := by simp only [Int.mul_comm, Int.mul_left_comm, Int.mul_assoc]
    have a4 : (N : Int) * r = r * N := Int.mul_comm _ _
    omega
  · rcases Nat.le_total (M % b) r with h | h
    · rw [Nat.min_eq_left h, ← Int.mul_sub]
      exact Int.mul_nonneg (by omega) (by omega)
    · rw [Nat.min_eq_right h, Int.mul_comm ((M % b : Nat) : Int), ← Int.mul_sub]
      exact Int.mul_nonneg (by omega) (by omega)
  · have a1 : ((min (M % b) r : Nat) : Int) * b ≤ ((b : Int) - 1) * b := Int.mul_le_mul_of_nonneg_right (by omega) (by omega)
    have a2 : 0 ≤ ((M % b : Nat) : Int) * (r : Int) := Int.mul_nonneg (by omega) (by omega)
    omega
  · have e : (N : Int) = (p : Int) * (N / p : Nat) + (N % p : Nat) := by rw [← Int.natCast_mul, ← Int.natCast_add, h1]
    rw [e, ← hM, Int.natCast_add, Int.add_mul, Int.mul_comm ((N / p : Nat) : Int)]
    split
    · omega
    · omega
  · have e : (N : Int) = (p : Int) * (N / p : Nat) + (N % p : Nat) := by rw [← Int.natCast_mul, ← Int.natCast_add, h1]
    rw [e, ← hM, Int.natCast_add, Int.add_mul, Int.mul_comm ((N / p : Nat) : Int)]
    split
    · omega
    · omega
  · rintro ⟨k, rfl⟩
    have e1 : p * b * k / p = b * k := by rw [Nat.mul_assoc, Nat.mul_div_cancel_left _ hp]
    have e2 : p * b * k % p = 0 := by rw [Nat.mul_assoc, Nat.mul_mod_right]
    rw [e1, e2, if_neg (by omega), Nat.add_zero] at hM
    subst hM
    rw [Nat.mul_mod_right]
    constructor
    · simp
    · rw [Int.natCast_mul, Int.natCast_mul, Int.natCast_mul, Int.mul_comm, Int.mul_assoc]; omega
theorem D_bd (b : Nat) (hb : 0 < b) (N : Nat) : ∀ d X, X ≤ b ^ d → (-(((b ^ d : Nat) : Int) * d * b) ≤ D b d N X ∧ D b d N X ≤ ((b ^ d : Nat) : Int) * d * b) ∧ (b ^ d ∣ N → D b d N X = 0) := by
  intro d
  induction d with
  | zero =>
    intro X hX
    have h : D b 0 N X = 0 := by
      unfold D C
      rcases Nat.eq_zero_or_pos X with h | h
      · subst h; rw [cn_none (fun n => by simp)]; simp
      · obtain rfl : X = 1 := by simp at hX; omega
        rw [cn_all (fun n => by simp [ro])]; simp
    rw [h]; simp
  | succ d ih =>
    intro X hX
    have hp : 0 < b ^ d := Nat.pow_pos hb
    have hpos : 0 ≤ ((b ^ (d + 1) : Nat) : Int) * ((d + 1 : Nat) : Int) * b := Int.mul_nonneg (Int.mul_nonneg (by omega) (by omega)) (by omega)
    rcases Nat.lt_or_ge X (b ^ (d + 1)) with hlt | hge
    · have hQ : X / b < b ^ d := by rw [Nat.div_lt_iff_lt_mul hb, ← Nat.pow_succ]; exact hlt
      have hr := Nat.mod_lt X hb
      have hXX := Nat.div_add_mod X b
      obtain ⟨ihb, ihd⟩ := ih (X / b) (Nat.le_of_lt hQ)
      obtain ⟨F, G, h0, hF0, hF1, hG0, hG1, hdiv⟩ := part (b ^ d) b (X % b) (ro b (X / b) d) N hp hb (ro_lt b _ d hb) hr
      have hD : D b (d + 1) N X = b * D b d N (X / b) + (((b ^ d : Nat) : Int) * F + ((X % b : Nat) : Int) * G) := by
        rw [← h0]
        unfold D
        rw [C_succ b d N X hb hQ, Nat.pow_succ]
        have eX : (X : Int) = (b : Int) * (X / b : Nat) + (X % b : Nat) := by rw [← Int.natCast_mul, ← Int.natCast_add, hXX]
        rw [eX]
        generalize cn (fun m => decide (m % b < X % b)) (cn (fun n => decide (n % b ^ d = ro b (X / b) d)) N) = E at *
        generalize C b d N (X / b) = c at *
        generalize X / b = Q at *
        generalize X % b = s at *
        generalize b ^ d = p at *
        rw [Int.natCast_add, Int.natCast_mul]
        simp only [Int.add_mul, Int.mul_add, Int.mul_sub]
        have a1 : (b : Int) * (c * p) = c * (p * b) := by simp only [Int.mul_comm, Int.mul_left_comm, Int.mul_assoc]
        have a2 : (b : Int) * (N * Q) = N * (b * Q) := by simp only [Int.mul_comm, Int.mul_left_comm, Int.mul_assoc]
        omega
      constructor
      · rw [hD]
        rw [show ((b ^ (d + 1) : Nat) : Int) = ((b ^ d : Nat) : Int) * b by rw [Nat.pow_succ, Int.natCast_mul]]
        generalize b ^ d = p at *
        generalize D b d N (X / b) = z at *
        generalize X % b = s at *
        have b1 : (b : Int) * z ≤ b * ((p : Int) * d * b) := Int.mul_le_mul_of_nonneg_left ihb.2 (by omega)
        have b2 : (b : Int) * (-((p : Int) * d * b)) ≤ b * z := Int.mul_le_mul_of_nonneg_left ihb.1 (by omega)
        rw [Int.mul_neg] at b2
        have b3 : (p : Int) * F ≤ p * (((b : Int) - 1) * b) := Int.mul_le_mul_of_nonneg_left hF1 (by omega)
        have b4 : 0 ≤ (p : Int) * F := Int.mul_nonneg (by omega) hF0
        have b5 : (s : Int) * G ≤ s * p := Int.mul_le_mul_of_nonneg_left hG1 (by omega)
        have b6 : (s : Int) * (-(p : Int)) ≤ s * G := Int.mul_le_mul_of_nonneg_left hG0 (by omega)
        have b7 : (s : Int) * p ≤ ((b : Int) - 1) * p := Int.mul_le_mul_of_nonneg_right (by omega) (by omega)
        have c0 : (p : Int) * b * ((d + 1 : Nat) : Int) * b = b * ((p : Int) * d * b) + p * (b * b) := by
          rw [Int.natCast_add, Int.mul_add, Int.add_mul]
          congr 1
          · simp only [Int.mul_comm, Int.mul_left_comm, Int.mul_assoc]
          · simp only [Int.mul_comm, Int.mul_left_comm, Int.mul_assoc]; simp
        rw [c0]
        rw [Int.sub_mul, Int.mul_sub] at b3
        rw [Int.sub_mul] at b7
        rw [Int.mul_neg] at b6
        rw [Int.one_mul] at b3 b7
        rw [Int.mul_comm (b : Int) (p : Int)] at b7
        generalize (b : Int) * ((p : Int) * d * b) = u at *
        have b8 : 0 ≤ (p : Int) * b := Int.mul_nonneg (by omega) (by omega)
        have b9 : (p : Int) * b ≤ p * (b * b) := by
          rw [← Int.mul_assoc]
          have : (p : Int) * b * 1 ≤ p * b * b := Int.mul_le_mul_of_nonneg_left (by omega) b8
          omega
        generalize (p : Int) * (b * b) = v at *
        generalize (p : Int) * b = x at *
        omega
      · intro hdvd
        rw [Nat.pow_succ] at hdvd
        have hd1 := ihd (Nat.dvd_trans ⟨b, rfl⟩ hdvd)
        obtain ⟨e1, e2⟩ := hdiv hdvd
        rw [hD, hd1, e1, e2]; simp
    · obtain rfl : X = b ^ (d + 1) := by omega
      have h : D b (d + 1) N (b ^ (d + 1)) = 0 := by
        unfold D C
        rw [cn_all (fun n => by simpa using ro_lt b n (d + 1) hb)]; omega
      rw [h]
      exact ⟨⟨by omega, by omega⟩, fun _ => rfl⟩
theorem Bl_C (b d N X : Nat) (hb : 0 < b) (hX : X ≤ b ^ d) : Bl (pts b d N) X = C b d N X := by
  rw [Bl_bd]
  congr 1
  unfold C pts
  induction N with
  | zero => rfl
  | succ n ih =>
    rw [List.range_succ, List.map_append, List.countP_append, ih, cn]
    congr 1
    simp only [List.map_cons, List.map_nil, List.countP_cons, List.countP_nil, inB, ro_mod b n d d (Nat.le_refl _)]
    simp
theorem most_bd (b d N : Nat) (hb : 0 < b) : ∀ k, k ≤ b ^ d → (0 ≤ most (pts b d N) (b ^ d) k ∧ most (pts b d N) (b ^ d) k ≤ ((b ^ d : Nat) : Int) * d * b) ∧ (b ^ d ∣ N → most (pts b d N) (b ^ d) k = 0) := by
  intro k
  induction k with
  | zero =>
    intro _
    have : 0 ≤ ((b ^ d : Nat) : Int) * d * b := Int.mul_nonneg (Int.mul_nonneg (by omega) (by omega)) (by omega)
    exact ⟨⟨by simp [most], by simpa [most] using this⟩, fun _ => rfl⟩
  | succ k ih =>
    intro hk
    have h1 := ih (by omega)
    have h2 := D_bd b hb N d (k + 1) hk
    have e : dif (pts b d N) (b ^ d) k = D b d N (k + 1) := by
      unfold dif D
      rw [Bl_C b d N (k + 1) hb hk, pts_len]; simp
    simp only [most, e]
    refine ⟨⟨by omega, by omega⟩, fun h => ?_⟩
    have h3 := h1.2 h
    have h4 := h2.2 h
    omega
end Go.Proofs.Ytoedkeopepanoaa
