/- The fractions of one sum of quotients: what each call leaves of them. Condition: numbers of a small chain. -/
import Derived.Test.YtidnmdfpnmahpaaBigIcmp
set_option linter.unusedSimpArgs false
set_option linter.unusedVariables false
set_option maxRecDepth 20000
namespace Go.Proofs.Ytidnmdfpnmahpaa.Big
open Go.RowKit
theorem red_of {X Y : Nat} (hY : 0 < Y) : X / Nat.gcd X Y * Y = Y / Nat.gcd X Y * X ∧ Nat.gcd (X / Nat.gcd X Y) (Y / Nat.gcd X Y) = 1 ∧ 0 < Y / Nat.gcd X Y ∧ Y / Nat.gcd X Y ≤ Y ∧ X / Nat.gcd X Y ≤ X := by
  have g0 : 0 < Nat.gcd X Y := Nat.gcd_pos_of_pos_right X hY
  have h1 : X / Nat.gcd X Y * Nat.gcd X Y = X := Nat.div_mul_cancel (Nat.gcd_dvd_left X Y)
  have h2 : Y / Nat.gcd X Y * Nat.gcd X Y = Y := Nat.div_mul_cancel (Nat.gcd_dvd_right X Y)
  have h3 : Nat.gcd (X / Nat.gcd X Y) (Y / Nat.gcd X Y) = 1 := by rw [Nat.gcd_div (Nat.gcd_dvd_left X Y) (Nat.gcd_dvd_right X Y), Nat.div_self g0]
  refine ⟨?_, h3, ?_, Nat.div_le_self _ _, Nat.div_le_self _ _⟩
  · generalize X / Nat.gcd X Y = p at *
    generalize Y / Nat.gcd X Y = q at *
    generalize Nat.gcd X Y = g at *
    rw [← h1, ← h2]
    grind
  · rcases Nat.eq_zero_or_pos (Y / Nat.gcd X Y) with h | h
    · rw [h, Nat.zero_mul] at h2; omega
    · exact h
theorem term_rat (x : Nat) (w : World) (hx : x < 9223372036854775808) :
    Calls Try.prog 24 #[.int .i64 (x : Int), .int .i64 1] w fun e w' => RFresh w w' e false x 1 := by
  have h := newrat_any x 1 w hx (by decide) (by decide)
  rw [Nat.gcd_one_right, Nat.div_one] at h
  exact h
theorem quot_rat (v s : Nat) (w : World) (hv : v < 9223372036854775808) (hs : s < 9223372036854775808) (h0 : 0 < s) :
    Calls Try.prog 24 #[.int .i64 (v : Int), .int .i64 (s : Int)] w fun e w' => ∃ c d, RFresh w w' e false c d ∧ c * s = d * v ∧ 0 < d ∧ d ≤ s ∧ c ≤ v := by
  refine (newrat_any v s w hv hs h0).mono fun e w' h => ?_
  obtain ⟨r1, r2, r3, r4, r5⟩ := red_of (X := v) h0
  exact ⟨_, _, h, r1, r3, r4, r5⟩
theorem term_mul (zb xb yb L c d v s : Nat) (w : World) (hz : Box w zb 4) (hx : RA w xb false L 1) (hy : RA w yb false c d) (hL : L ≤ 4428675000) (hs : s ≤ 45) (h0 : 0 < s) (hv : v ≤ s) (h1 : c * s = d * v) (h2 : 0 < d) (h3 : d ≤ s) (h4 : c ≤ v) :
    Calls Try.prog 23 #[.pointer (some ⟨zb, 0, none⟩), .pointer (some ⟨xb, 0, none⟩), .pointer (some ⟨yb, 0, none⟩)] w fun e w' => e = .returned (.pointer (some ⟨zb, 0, none⟩)) ∧ ∃ P Q, RPut w w' zb false P Q ∧ P * s = Q * (L * v) ∧ 0 < Q ∧ Q ≤ 45 := by
  have hLc : L * c ≤ 4428675000 * 45 := Nat.mul_le_mul hL (by omega)
  have hd : dn 1 * dn d = d := by
    have e1 : dn 1 = 1 := rfl
    have e2 : dn d = d := if_neg (by omega)
    rw [e1, e2, Nat.one_mul]
  refine (rmul_any zb xb yb L 1 c d w hz hx hy (by omega) (by decide) (by omega) (by omega) (by omega) (by rw [hd]; omega)).mono fun e w' h => ?_
  obtain ⟨he, hp⟩ := h
  rw [hd] at hp
  obtain ⟨r1, r2, r3, r4, r5⟩ := red_of (X := L * c) h2
  refine ⟨he, _, _, hp, ?_, r3, by omega⟩
  generalize L * c / Nat.gcd (L * c) d = P at *
  generalize d / Nat.gcd (L * c) d = Q at *
  refine Nat.eq_of_mul_eq_mul_right h2 ?_
  calc P * s * d = (P * d) * s := by grind
    _ = Q * (L * c) * s := by rw [r1]
    _ = Q * L * (c * s) := by grind
    _ = Q * L * (d * v) := by rw [h1]
    _ = Q * (L * v) * d := by grind
/-- The sum of the first k quotients, over p. -/
structure PartI (A B p T k : Nat) : Prop where
  eq : A * p = dn B * T
  nz : k = 0 ∨ 0 < B
  co : Nat.gcd A (dn B) = 1
  dle : dn B ≤ 45 ^ k
  ale : A ≤ k * 4428675000 * dn B
theorem PartI.zero : PartI 0 0 1 0 0 := ⟨rfl, .inl rfl, rfl, by decide, by decide⟩
theorem part_le {P Q s L v : Nat} (h : P * s = Q * (L * v)) (hv : v ≤ s) (h0 : 0 < s) (hL : L ≤ 4428675000) : P ≤ 4428675000 * Q := by
  refine Nat.le_of_mul_le_mul_right ?_ h0
  rw [h]
  have h1 : L * v ≤ 4428675000 * s := Nat.mul_le_mul hL hv
  calc Q * (L * v) ≤ Q * (4428675000 * s) := Nat.mul_le_mul_left _ h1
    _ = 4428675000 * Q * s := by grind
theorem pow45 {k : Nat} (hk : k ≤ 4) : 45 ^ k ≤ 4100625 := by
  match k, hk with
  | 0, _ => decide
  | 1, _ => decide
  | 2, _ => decide
  | 3, _ => decide
  | 4, _ => decide
theorem term_add (xb zb A B P Q p T k s L v : Nat) (w : World) (hx : RA w xb false A B) (hz : RA w zb false P Q) (hk : k ≤ 4) (hi : PartI A B p T k) (h1 : P * s = Q * (L * v)) (h2 : 0 < Q) (h3 : Q ≤ 45) (hv : v ≤ s) (h0 : 0 < s) (hL : L ≤ 4428675000) :
    Calls Try.prog 22 #[.pointer (some ⟨xb, 0, none⟩), .pointer (some ⟨xb, 0, none⟩), .pointer (some ⟨zb, 0, none⟩)] w fun e w' => e = .returned (.pointer (some ⟨xb, 0, none⟩)) ∧ ∃ A' B', RPut w w' xb false A' B' ∧ PartI A' B' (p * s) (T * s + L * v * p) (k + 1) := by
  have hd : dn Q = Q := if_neg (by omega)
  have hB45 := Nat.le_trans hi.dle (pow45 hk)
  have hBB : B ≤ dn B := by unfold dn; split <;> omega
  have hP := part_le h1 hv h0 hL
  have hdp := dn_pos B
  obtain ⟨i1, i2, i3, i4, i5⟩ := hi
  obtain ⟨E, hE⟩ : ∃ E, dn B = E := ⟨_, rfl⟩
  rw [hE] at i1 i3 i4 i5 hB45 hBB hdp
  have a1 : A * Q ≤ k * 4428675000 * E * Q := Nat.mul_le_mul_right _ i5
  have b1 : P * E ≤ 4428675000 * Q * E := Nat.mul_le_mul_right _ hP
  have hEQ : E * Q ≤ 4100625 * 45 := Nat.mul_le_mul hB45 h3
  have c1 : k * 4428675000 * E * Q + 4428675000 * Q * E = (k + 1) * 4428675000 * (E * Q) := by grind
  have c2 : (k + 1) * 4428675000 * (E * Q) ≤ 5 * 4428675000 * (4100625 * 45) := Nat.mul_le_mul (Nat.mul_le_mul_right _ (by omega)) hEQ
  have hA : A ≤ A * Q := Nat.le_mul_of_pos_right A h2
  have hPE : P ≤ P * E := Nat.le_mul_of_pos_right P hdp
  have hSle : A * Q + P * E ≤ (k + 1) * 4428675000 * (E * Q) := by omega
  have hY0 : 0 < E * Q := Nat.mul_pos hdp h2
  obtain ⟨r1, r2, r3, r4, r5⟩ := red_of (X := A * Q + P * E) hY0
  refine (radd_any xb xb zb false A B P Q (A * Q + P * E) w hx.1 hx hz (by omega) (by omega) (by omega) (by omega) (.inl ⟨rfl, by rw [hd, hE]⟩) (by omega) (by rw [hd, hE]; omega) (by rw [hd]; omega) (by rw [hE]; omega)).mono fun e w' h => ?_
  obtain ⟨he, hp⟩ := h
  rw [hd, hE] at hp
  refine ⟨he, _, _, hp, ?_⟩
  have hdd : dn (E * Q / Nat.gcd (A * Q + P * E) (E * Q)) = E * Q / Nat.gcd (A * Q + P * E) (E * Q) := if_neg (by omega)
  refine ⟨?_, .inr r3, by rw [hdd]; exact r2, ?_, ?_⟩
  · rw [hdd]
    generalize (A * Q + P * E) / Nat.gcd (A * Q + P * E) (E * Q) = a at *
    generalize E * Q / Nat.gcd (A * Q + P * E) (E * Q) = b at *
    refine Nat.eq_of_mul_eq_mul_right hY0 ?_
    calc a * (p * s) * (E * Q) = (a * (E * Q)) * (p * s) := by grind
      _ = b * (A * Q + P * E) * (p * s) := by rw [r1]
      _ = b * ((A * p) * (Q * s) + (P * s) * (E * p)) := by grind
      _ = b * ((E * T) * (Q * s) + (Q * (L * v)) * (E * p)) := by rw [i1, h1]
      _ = b * (T * s + L * v * p) * (E * Q) := by grind
  · rw [hdd, Nat.pow_succ]
    exact Nat.le_trans r4 (Nat.mul_le_mul i4 h3)
  · rw [hdd]
    generalize (A * Q + P * E) / Nat.gcd (A * Q + P * E) (E * Q) = a at *
    generalize E * Q / Nat.gcd (A * Q + P * E) (E * Q) = b at *
    refine Nat.le_of_mul_le_mul_right ?_ hY0
    rw [r1]
    calc b * (A * Q + P * E) ≤ b * ((k + 1) * 4428675000 * (E * Q)) := Nat.mul_le_mul_left _ hSle
      _ = (k + 1) * 4428675000 * b * (E * Q) := by grind
/-- A whole sum that comes to L is L over 1. -/
theorem PartI.whole {A B p L k : Nat} (h : PartI A B p (L * p) k) (hk : 0 < k) (hp : 0 < p) : A = L ∧ B = 1 := by
  obtain ⟨i1, i2, i3, i4, i5⟩ := h
  have hB : 0 < B := by omega
  have hd : dn B = B := if_neg (by omega)
  rw [hd] at i1 i3
  have e : A = B * L := by
    refine Nat.eq_of_mul_eq_mul_right hp ?_
    rw [i1]; grind
  rw [e, Nat.gcd_comm, Nat.gcd_mul_right_right] at i3
  exact ⟨by rw [e, i3, Nat.one_mul], i3⟩
end Go.Proofs.Ytidnmdfpnmahpaa.Big
