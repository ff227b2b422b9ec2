/- The walk of NatFalls. No condition. -/
import Derived.Test.YtkaejoejaohpcaaAl
import Derived.Test.YtkaejoejaohpcaaErr
set_option linter.unusedSimpArgs false
set_option linter.unusedVariables false
namespace Go.Proofs.Ytkaejoejaohpcaa.natFalls
open Go.RowKit Go.Proofs.Ytkaejoejaohpcaa
theorem fallN_add (n a : Nat) : ∀ b, fallN n a * fallN (n - a) b = fallN n (a + b)
  | 0 => by simp [fallN]
  | b + 1 => by
    show fallN n a * (fallN (n - a) b * (n - a - b)) = fallN n (a + b) * (n - (a + b))
    rw [← fallN_add n a b, Nat.sub_sub, Nat.mul_assoc]
theorem fall_short {n k : Nat} (hn : n < 18446744073709551616) {l : List Nat} (hc : Canon l) (hv : val l = fallN n k) : l.length ≤ k + 1 := by
  rw [len_iff hc, hv]
  have h1 := fallN_bd hn k
  have h2 : 18446744073709551615 ^ k ≤ 18446744073709551616 ^ k := Nat.pow_le_pow_left (by decide) k
  have h3 : 18446744073709551616 ^ k < 18446744073709551616 ^ (k + 1) := Nat.pow_lt_pow_right (by decide) (by omega)
  omega
set_option maxHeartbeats 1600000 in
theorem run (n a b : Nat) (w : World) (hn : n < 18446744073709551616) (ha : a ≤ 40) (hb : b ≤ 20) :
    Calls Try.prog 5 #[.int .u64 n, .int .i64 a, .int .i64 b] w fun e w' => e = .returned (.bool true) ∧ Below w.heap.size w w' := by
  have d1 : ¬ (40 : Int) < (a : Int) := by omega
  have d2 : ¬ (20 : Int) < (b : Int) := by omega
  obtain ⟨t, ht⟩ : ∃ t, a + b = t := ⟨_, rfl⟩
  have s1 : IntKind.i64.wrap ((a : Int) + (b : Int)) = (t : Int) := by rw [IntKind.wrap_i64]; omega
  have s2 : IntKind.u64.wrap (a : Int) = (a : Int) := by rw [IntKind.wrap_u64]; omega
  have HN := Lib.hid hn
  have H1 : Hid (∀ X, Calls Try.prog 13 #[.int .u64 n, .int .i64 a] X fun e w' => Below X.heap.size X w' ∧ ∃ p k c l, e = .returned (.tuple #[.slice p k c, .int .i64 0]) ∧ Rd w' (.slice p k c) (castN l) ∧ Canon l ∧ val l = fallN n a ∧ l.length = k) := fun X => falling_any n a X hn (by omega)
  have H2 : Hid (∀ X, Calls Try.prog 13 #[.int .u64 n, .int .i64 t] X fun e w' => Below X.heap.size X w' ∧ ∃ p k c l, e = .returned (.tuple #[.slice p k c, .int .i64 0]) ∧ Rd w' (.slice p k c) (castN l) ∧ Canon l ∧ val l = fallN n t ∧ l.length = k) := fun X => falling_any n t X hn (by omega)
  have HT : Hid (a + b = t) := ht
  clear ht
  go_enter Try.func5, Try.ntmps5
  go_wp2_with fail
  refine (alive_any w).mono ?_
  rintro e w1 ⟨rfl, hb1⟩
  have HB1 := Lib.hid hb1
  clear hb1
  go_wp2_with fail
  refine (H1.out w1).mono ?_
  rintro e w2 ⟨hb2, p2, k2, c2, l2, rfl, hr2, q2, v2, u2⟩
  have HB2 := Lib.hid (HB1.out.trans (hb2.mono HB1.out.size))
  have HR2 := Lib.hid hr2
  have HQ2 : Hid (Canon l2 ∧ val l2 = fallN n a ∧ l2.length = k2) := ⟨q2, v2, u2⟩
  clear hb2 hr2 q2 v2 u2 H1
  go_wp2_with fail
  refine (H2.out w2).mono ?_
  rintro e w3 ⟨hb3, p3, k3, c3, l3, rfl, hr3, q3, v3, u3⟩
  have HB3 := Lib.hid (HB2.out.trans (hb3.mono HB2.out.size))
  have HR23 := Lib.hid (HR2.out.below hb3 (Nat.le_refl _))
  have HR3 := Lib.hid hr3
  have HQ3 : Hid (Canon l3 ∧ val l3 = fallN n t ∧ l3.length = k3) := ⟨q3, v3, u3⟩
  clear hb3 hr3 q3 v3 u3 H2 HR2
  by_cases hna : n < a
  · have hI : (n : Int) < (a : Int) := by omega
    obtain ⟨x1, x2, x3⟩ := HQ2.out
    obtain ⟨y1, y2, y3⟩ := HQ3.out
    have z1 : l2 = [] := val_zero x1 (by rw [x2]; exact fallN_zero n a hna)
    have z2 : l3 = [] := val_zero y1 (by rw [y2]; exact fallN_zero n t (by have := HT.out; omega))
    obtain rfl : k2 = 0 := by rw [← x3, z1]; rfl
    obtain rfl : k3 = 0 := by rw [← y3, z2]; rfl
    clear x1 x2 x3 y1 y2 y3 z1 z2
    go_wp2_with fail
    go_ret
    exact ⟨rfl, HB3.out⟩
  · have hI : ¬ (n : Int) < (a : Int) := by omega
    obtain ⟨d, hd⟩ : ∃ d, n - a = d := ⟨_, rfl⟩
    have s3 : IntKind.u64.wrap ((n : Int) - (a : Int)) = (d : Int) := by rw [IntKind.wrap_u64]; omega
    have H3 : Hid (∀ X, Calls Try.prog 13 #[.int .u64 d, .int .i64 b] X fun e w' => Below X.heap.size X w' ∧ ∃ p k c l, e = .returned (.tuple #[.slice p k c, .int .i64 0]) ∧ Rd w' (.slice p k c) (castN l) ∧ Canon l ∧ val l = fallN d b ∧ l.length = k) := fun X => falling_any d b X (by have := HN.out; omega) (by omega)
    have HDN : Hid (d < 18446744073709551616) := by have := HN.out; show d < _; omega
    have HFA : Hid (fallN n a * fallN d b = fallN n t) := by show _ = _; rw [← hd, ← HT.out]; exact fallN_add n a b
    clear hd
    go_wp2_with fail
    refine (H3.out w3).mono ?_
    rintro e w4 ⟨hb4, p4, k4, c4, l4, rfl, hr4, q4, v4, u4⟩
    have HB4 := Lib.hid (HB3.out.trans (hb4.mono HB3.out.size))
    have HR24 := Lib.hid (HR23.out.below hb4 (Nat.le_refl _))
    have HR34 := Lib.hid (HR3.out.below hb4 (Nat.le_refl _))
    have HM := Lib.hid (mul_ok p2 k2 c2 l2 p4 k4 c4 l4 w4 (fallN n t) HR24.out hr4 HQ2.out.1 q4 (by
      have h1 := fall_short HN.out HQ2.out.1 HQ2.out.2.1
      have h2 := fall_short HDN.out q4 v4
      have h3 := HQ2.out.2.2
      omega) (by rw [HQ2.out.2.1, v4, HFA.out]))
    clear hb4 hr4 q4 v4 u4 H3 HR23 HR3
    go_wp2_with fail
    refine HM.out.mono ?_
    rintro e w5 ⟨hb5, p5, k5, c5, l5, rfl, hr5, q5, v5, -⟩
    have HB5 := Lib.hid (HB4.out.trans (hb5.mono HB4.out.size))
    have hl : l5 = l3 := val_inj q5 HQ3.out.1 (by rw [v5, HQ3.out.2.1])
    have HE : Hid (Calls Try.prog 10 #[.slice p5 k5 c5, .slice p3 k3 c3] w5 fun e w' => e = .returned (.bool true) ∧ Below w5.heap.size w5 w') := (equal_any _ _ _ _ w5 hr5 (HR34.out.below hb5 (Nat.le_refl _))).mono fun e w' ⟨h1, h2⟩ => ⟨by rw [h1, hl]; simp, h2⟩
    clear HM hb5 hr5 q5 v5 hl
    go_wp2_with fail
    refine HE.out.mono ?_
    rintro e w6 ⟨rfl, hb6⟩
    have HB6 := Lib.hid (HB5.out.trans (hb6.mono HB5.out.size))
    clear HE hb6
    go_wp2_with fail
    go_ret
    exact ⟨rfl, HB6.out⟩
theorem walk (x0 x1 x2 : Int) (w : World) (g0 : (Lit.int .u64 x0).wf = true) (g1 : (Lit.int .i64 x1).wf = true) (g2 : (Lit.int .i64 x2).wf = true) :
    Calls Try.prog 5 #[.int .u64 x0, .int .i64 x1, .int .i64 x2] w fun e w' => e = .returned (.bool true) ∧ Below w.heap.size w w' := by
  obtain ⟨h0, h0'⟩ := bounds_u64 g0
  clear g0 g1 g2
  obtain ⟨n, rfl⟩ := Int.eq_ofNat_of_zero_le h0
  by_cases hok : 0 ≤ x1 ∧ 0 ≤ x2 ∧ x1 ≤ 40 ∧ x2 ≤ 20
  · obtain ⟨h1, h2, h3, h4⟩ := hok
    obtain ⟨a, rfl⟩ := Int.eq_ofNat_of_zero_le h1
    obtain ⟨b, rfl⟩ := Int.eq_ofNat_of_zero_le h2
    exact run n a b w (by omega) (by omega) (by omega)
  · have HOK := Lib.hid hok
    clear hok
    go_enter Try.func5, Try.ntmps5
    go_wp2_with fail
    refine (alive_any w).mono ?_
    rintro e w1 ⟨rfl, hb1⟩
    have HB1 := Lib.hid hb1
    clear hb1
    go_wp2_with fail
    all_goals first
      | (exfalso; have := HOK.out; omega)
      | (go_ret; exact ⟨rfl, HB1.out⟩)
end Go.Proofs.Ytkaejoejaohpcaa.natFalls
