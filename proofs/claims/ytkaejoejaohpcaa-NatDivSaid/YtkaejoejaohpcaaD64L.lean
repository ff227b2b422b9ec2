/- Division of two words by one, digit by digit (Knuth): plain. No condition. -/
import Derived.Lib.BitFns
import Derived.Laws.Bits64
import Derived.Laws.Bits64b
namespace Go.Proofs.Ytkaejoejaohpcaa
theorem dig_init {y1 y0 b u d : Nat} (h1 : 0 < y1) (hd : d < b) : (u * b + d) / (y1 * b + y0) ≤ u / y1 := by
  have hq := Nat.div_mul_le_self (u * b + d) (y1 * b + y0)
  generalize (u * b + d) / (y1 * b + y0) = Q at *
  rw [Nat.le_div_iff_mul_le h1]
  have h2 : Q * y1 * b < (u + 1) * b := by
    have e1 : Q * (y1 * b + y0) = Q * y1 * b + Q * y0 := by grind
    have e2 : (u + 1) * b = u * b + b := by grind
    omega
  have := Nat.lt_of_mul_lt_mul_right h2
  omega
theorem dig_stay {y1 y0 b u d q r : Nat} (hy : 0 < y1 * b + y0) (h : q * y1 + r = u) (h2 : q * y0 ≤ b * r + d) (hQ : (u * b + d) / (y1 * b + y0) ≤ q) : q = (u * b + d) / (y1 * b + y0) := by
  refine Nat.le_antisymm ?_ hQ
  rw [Nat.le_div_iff_mul_le hy]
  have e1 : q * (y1 * b + y0) = q * y1 * b + q * y0 := by grind
  have e2 : u * b = q * y1 * b + b * r := by rw [← h]; grind
  omega
theorem dig_dec1 {y b u d q : Nat} (hu : u < y) (hd : d < b) (hb : b ≤ q) : (u * b + d) / y < q := by
  have h1 : (u * b + d) / y < b := by
    rw [Nat.div_lt_iff_lt_mul (by omega)]
    have h2 : (u + 1) * b ≤ y * b := Nat.mul_le_mul hu (Nat.le_refl b)
    have e2 : (u + 1) * b = u * b + b := by grind
    rw [Nat.mul_comm b y]
    omega
  omega
theorem dig_dec2 {y1 y0 b u d q r : Nat} (hy : 0 < y1 * b + y0) (h : q * y1 + r = u) (h2 : b * r + d < q * y0) : (u * b + d) / (y1 * b + y0) < q := by
  rw [Nat.div_lt_iff_lt_mul hy]
  have e1 : q * (y1 * b + y0) = q * y1 * b + q * y0 := by grind
  have e2 : u * b = q * y1 * b + b * r := by rw [← h]; grind
  omega
theorem dig_brk {y1 y0 b u d q r : Nat} (hy : 0 < y1 * b + y0) (h0 : y0 < b) (hu : u < y1 * b + y0) (h : q * y1 + r = u) (hr : b ≤ r) (hQ : (u * b + d) / (y1 * b + y0) ≤ q) : q = (u * b + d) / (y1 * b + y0) := by
  refine dig_stay hy h ?_ hQ
  have h1 : q * y1 < b * y1 := by rw [Nat.mul_comm b y1]; omega
  have h2 : q < b := Nat.lt_of_mul_lt_mul_right h1
  have h3 : q * y0 ≤ b * b := Nat.mul_le_mul (by omega) (by omega)
  have h4 : b * b ≤ b * r := Nat.mul_le_mul (Nat.le_refl _) hr
  omega
theorem div_fin {b n t y u u1 u0 : Nat} (ht : 0 < t) (hn : n * t = (u * b + u1) * b + u0) (hy : 0 < y) :
    (u * b + u1) / (y * t) * b + ((u * b + u1) % (y * t) * b + u0) / (y * t) = n / y ∧ ((u * b + u1) % (y * t) * b + u0) % (y * t) / t = n % y := by
  have h1 : n * t / (y * t) = n / y := Nat.mul_div_mul_right n y ht
  have h2 : n * t % (y * t) = n % y * t := Nat.mul_mod_mul_right t n y
  have hyt : 0 < y * t := Nat.mul_pos hy ht
  generalize y * t = Y at *
  have e1 := Nat.div_add_mod (u * b + u1) Y
  generalize (u * b + u1) / Y = Q1 at *
  generalize (u * b + u1) % Y = R1 at *
  have e2 : n * t = R1 * b + u0 + Y * (Q1 * b) := by rw [hn, ← e1]; grind
  rw [e2, Nat.add_mul_div_left _ _ hyt] at h1
  rw [e2, Nat.add_mul_mod_self_left] at h2
  rw [h2, Nat.mul_div_cancel _ ht, ← h1]
  exact ⟨by omega, rfl⟩
/-- What the words wrap to. -/
theorem wrap_nat (x : Nat) (h : x < 18446744073709551616) : IntKind.u64.wrap (x : Int) = x := by rw [IntKind.wrap_u64]; omega
theorem wrap_rest {A C R d : Nat} (h : A + d = C + R) (hR : R < 18446744073709551616) :
    IntKind.u64.wrap (IntKind.u64.wrap (IntKind.u64.wrap (A : Int) + (d : Int)) - IntKind.u64.wrap (C : Int)) = R := by
  rw [IntKind.wrap_u64, IntKind.wrap_u64, IntKind.wrap_u64, IntKind.wrap_u64]
  omega
theorem blen : ∀ (f x : Nat), x < 2 ^ f → x ≠ 0 → 1 ≤ Lib.bitLenAux f x ∧ Lib.bitLenAux f x ≤ f ∧ 2 ^ (Lib.bitLenAux f x - 1) ≤ x ∧ x < 2 ^ Lib.bitLenAux f x
  | 0, x, h, h0 => by simp at h; omega
  | f + 1, x, h, h0 => by
    rw [Lib.bitLenAux, if_neg h0]
    by_cases h2 : x / 2 = 0
    · have hz : Lib.bitLenAux f (x / 2) = 0 := by rw [h2]; cases f <;> simp [Lib.bitLenAux]
      rw [hz]
      have : x = 1 := by omega
      subst this
      simp
    · obtain ⟨a, a', b, c⟩ := blen f (x / 2) (by rw [Nat.pow_succ] at h; omega) h2
      generalize Lib.bitLenAux f (x / 2) = L at a a' b c ⊢
      obtain ⟨k, rfl⟩ : ∃ k, L = k + 1 := ⟨L - 1, by omega⟩
      simp only [Nat.add_sub_cancel] at b
      refine ⟨by omega, by omega, ?_, ?_⟩
      · rw [show 1 + (k + 1) - 1 = k + 1 by omega, Nat.pow_succ]; omega
      · rw [show 1 + (k + 1) = k + 1 + 1 by omega, Nat.pow_succ]; omega
/-- The divisor, its highest bit brought up. -/
theorem norm_y {y : Nat} (h0 : y ≠ 0) (h : y < 18446744073709551616) : ∃ s, (Lib.bitLen y : Nat) + s = 64 ∧ s ≤ 63 ∧ 9223372036854775808 ≤ y * 2 ^ s ∧ y * 2 ^ s < 18446744073709551616 := by
  obtain ⟨h1, h2, h3, h4⟩ := blen 64 y h h0
  unfold Lib.bitLen
  generalize Lib.bitLenAux 64 y = L at *
  refine ⟨64 - L, by omega, by omega, ?_, ?_⟩
  · have := Nat.mul_le_mul h3 (Nat.le_refl (2 ^ (64 - L)))
    rw [← Nat.pow_add, show L - 1 + (64 - L) = 63 by omega] at this
    exact this
  · have := Nat.mul_lt_mul_of_pos_right h4 (Nat.two_pow_pos (64 - L))
    rw [← Nat.pow_add, show L + (64 - L) = 64 by omega] at this
    exact this
/-- The dividend, shifted as far. -/
theorem norm_n {hi lo y s : Nat} (hs : s ≤ 63) (hh : hi < y) (hl : lo < 18446744073709551616) (hy : y * 2 ^ s < 18446744073709551616) :
    ∃ u v1 v0 : Nat, lo / 2 ^ (64 - s) < 18446744073709551616 ∧ hi * 2 ^ s < 18446744073709551616 ∧ (hi * 2 ^ s ||| lo / 2 ^ (64 - s)) = u ∧ (lo * 2 ^ s % 18446744073709551616) / 4294967296 = v1 ∧ (lo * 2 ^ s % 18446744073709551616) % 4294967296 = v0 ∧
      u < y * 2 ^ s ∧ v1 < 4294967296 ∧ v0 < 4294967296 ∧ (hi * 18446744073709551616 + lo) * 2 ^ s = (u * 4294967296 + v1) * 4294967296 + v0 := by
  have hp : 2 ^ s * 2 ^ (64 - s) = 18446744073709551616 := by rw [← Nat.pow_add, show s + (64 - s) = 64 by omega]
  have ht : lo / 2 ^ (64 - s) < 2 ^ s := by
    rw [Nat.div_lt_iff_lt_mul (Nat.two_pow_pos _), hp]; exact hl
  have hor : (hi * 2 ^ s ||| lo / 2 ^ (64 - s)) = hi * 2 ^ s + lo / 2 ^ (64 - s) := by
    have := Nat.shiftLeft_add_eq_or_of_lt ht hi
    rw [Nat.shiftLeft_eq] at this
    exact this.symm
  have hd : lo * 2 ^ s / 18446744073709551616 = lo / 2 ^ (64 - s) := by
    rw [← hp, Nat.mul_comm lo, Nat.mul_div_mul_left _ _ (Nat.two_pow_pos s)]
  have hm := Nat.div_add_mod (lo * 2 ^ s) 18446744073709551616
  rw [hd] at hm
  have hmlt : lo * 2 ^ s % 18446744073709551616 < 18446744073709551616 := Nat.mod_lt _ (by decide)
  have h1 : (hi + 1) * 2 ^ s ≤ y * 2 ^ s := Nat.mul_le_mul hh (Nat.le_refl _)
  have h2 : (hi + 1) * 2 ^ s = hi * 2 ^ s + 2 ^ s := by rw [Nat.add_mul, Nat.one_mul]
  have hsum : (hi * 18446744073709551616 + lo) * 2 ^ s = hi * 2 ^ s * 18446744073709551616 + lo * 2 ^ s := by grind
  rw [hor, hsum]
  generalize lo / 2 ^ (64 - s) = t at *
  generalize lo * 2 ^ s % 18446744073709551616 = m at *
  generalize lo * 2 ^ s = z at *
  generalize hi * 2 ^ s = x at *
  generalize y * 2 ^ s = Y at *
  generalize 2 ^ s = p at *
  refine ⟨_, _, _, ?_, ?_, rfl, rfl, rfl, ?_, ?_, ?_, ?_⟩ <;> omega
theorem and32 (x : Nat) (h : x < 18446744073709551616) : bits .and .u64 (x : Int) 4294967295 = ((x % 4294967296 : Nat) : Int) := by
  have := bits_and_u64_nat x 4294967295 h (by decide)
  rw [show ((4294967295 : Nat) : Int) = 4294967295 from rfl] at this
  rw [this, show (4294967295 : Nat) = 2 ^ 32 - 1 from rfl, Nat.and_two_pow_sub_one_eq_mod]
/-- All that the long way reckons ahead of its digits. -/
theorem norm_all {hi lo y : Nat} (h0 : 0 < hi) (hh : hi < y) (hl : lo < 18446744073709551616) (hy : y < 18446744073709551616) :
    ∃ s u v1 v0 m t x Y p : Nat, Lib.bitLen y + s = 64 ∧ s ≤ 63 ∧ 2 ^ s = p ∧
      (IntKind.u64.wrap ((y : Int) * 2 ^ s) = (Y : Int) ∧ IntKind.u64.wrap ((hi : Int) * 2 ^ s) = (x : Int) ∧ IntKind.u64.wrap ((lo : Int) * 2 ^ s) = (m : Int) ∧ (lo : Int) / 2 ^ (64 - s) = (t : Int) ∧ bits .or .u64 (x : Int) (t : Int) = (u : Int) ∧ (m : Int) / 4294967296 = (v1 : Int) ∧ bits .and .u64 (m : Int) 4294967295 = (v0 : Int)) ∧
      u < Y ∧ v1 < 4294967296 ∧ v0 < 4294967296 ∧ 9223372036854775808 ≤ Y ∧ Y < 18446744073709551616 ∧
      (hi * 18446744073709551616 + lo) / y = (u * 4294967296 + v1) / Y * 4294967296 + ((u * 4294967296 + v1) % Y * 4294967296 + v0) / Y ∧
      (hi * 18446744073709551616 + lo) % y = ((u * 4294967296 + v1) % Y * 4294967296 + v0) % Y / p := by
  obtain ⟨s, hs1, hs, hY1, hY2⟩ := norm_y (y := y) (by omega) hy
  obtain ⟨u, v1, v0, n1, n2, n3, n4, n5, hu, hv1, hv0, hN⟩ := norm_n hs hh hl hY2
  refine ⟨s, u, v1, v0, lo * 2 ^ s % 18446744073709551616, lo / 2 ^ (64 - s), hi * 2 ^ s, y * 2 ^ s, 2 ^ s, hs1, hs, rfl, ⟨?_, ?_, ?_, ?_, ?_, ?_, ?_⟩, hu, hv1, hv0, hY1, hY2, ?_⟩
  · rw [show (y : Int) * 2 ^ s = ((y * 2 ^ s : Nat) : Int) by simp]; exact wrap_nat _ hY2
  · rw [show (hi : Int) * 2 ^ s = ((hi * 2 ^ s : Nat) : Int) by simp]; exact wrap_nat _ n2
  · rw [show (lo : Int) * 2 ^ s = ((lo * 2 ^ s : Nat) : Int) by simp, IntKind.wrap_u64]; rfl
  · simp
  · rw [bits_or_u64_nat _ _ n2 n1, n3]
  · rw [← n4]; rfl
  · rw [and32 _ (Nat.mod_lt _ (by decide)), n5]
  · obtain ⟨a, b⟩ := div_fin (Nat.two_pow_pos s) hN (y := y) (by omega)
    exact ⟨a.symm, b.symm⟩
/-- A digit: what the walk is told of it. -/
structure Dig (u d y1 y0 Q R : Nat) : Prop where
  init : u / y1 * y1 + u % y1 = u ∧ Q ≤ u / y1 ∧ u / y1 < 17179869184 ∧ u % y1 < 4294967296
  rest : u * 4294967296 + d = Q * (y1 * 4294967296 + y0) + R
  small : Q < 4294967296
  stay : ∀ q r, q * y1 + r = u → q * y0 ≤ 4294967296 * r + d → Q ≤ q → q = Q
  dec1 : ∀ q, 4294967296 ≤ q → Q < q
  dec2 : ∀ q r, q * y1 + r = u → 4294967296 * r + d < q * y0 → Q < q
  brk : ∀ q r, q * y1 + r = u → 4294967296 ≤ r → Q ≤ q → q = Q
theorem dig {u d y1 y0 Y Q R : Nat} (hY : Y = y1 * 4294967296 + y0) (h0 : y0 < 4294967296) (h1 : 2147483648 ≤ y1) (h2 : Y < 18446744073709551616) (hu : u < Y) (hd : d < 4294967296)
    (hQ : (u * 4294967296 + d) / Y = Q) (hR : (u * 4294967296 + d) % Y = R) : Dig u d y1 y0 Q R := by
  subst hY
  have hpos : 0 < y1 * 4294967296 + y0 := by omega
  have hs := dig_dec1 hu hd (Nat.le_refl 4294967296)
  have hi : (u * 4294967296 + d) / (y1 * 4294967296 + y0) ≤ u / y1 := dig_init (by omega) hd
  have hm := Nat.div_add_mod (u * 4294967296 + d) (y1 * 4294967296 + y0)
  rw [hQ] at hs hi hm
  rw [hR] at hm
  refine ⟨⟨by rw [Nat.mul_comm]; exact Nat.div_add_mod u y1, hi, ?_, ?_⟩, by rw [← hm, Nat.mul_comm], hs, ?_, ?_, ?_, ?_⟩
  · rw [Nat.div_lt_iff_lt_mul (by omega)]; omega
  · have := Nat.mod_lt u (show y1 > 0 by omega)
    omega
  · intro q r h3 h4 h5
    rw [← hQ] at h5 ⊢
    exact dig_stay hpos h3 h4 h5
  · intro q h3
    rw [← hQ]
    exact dig_dec1 hu hd h3
  · intro q r h3 h4
    rw [← hQ]
    exact dig_dec2 hpos h3 h4
  · intro q r h3 h4 h5
    rw [← hQ] at h5 ⊢
    exact dig_brk hpos h0 hu h3 h4 h5
/-- One less, and the rest one y1 more. -/
def Less (u y1 Q q r : Nat) : Prop :=
  ∃ q' r' : Nat, IntKind.u64.wrap ((q : Int) - 1) = (q' : Int) ∧ IntKind.u64.wrap ((r : Int) + (y1 : Int)) = (r' : Int) ∧
    ((4294967296 ≤ r' ∧ q' = Q) ∨ (r' < 4294967296 ∧ q' * y1 + r' = u ∧ Q ≤ q' ∧ q' < 17179869184 ∧ q' < q))
theorem dig_less {u d y1 y0 Q R q r : Nat} (D : Dig u d y1 y0 Q R) (hq : q * y1 + r = u) (hr : r < 4294967296) (hQ : Q < q) (hqb : q < 17179869184) (b2 : y1 < 4294967296) : Less u y1 Q q r := by
  obtain ⟨q', rfl⟩ : ∃ q', q = q' + 1 := ⟨q - 1, by omega⟩
  have h1 : q' * y1 + (r + y1) = u := by rw [← hq, Nat.add_mul]; omega
  refine ⟨q', r + y1, ?_, ?_, ?_⟩
  · rw [show ((q' + 1 : Nat) : Int) - 1 = (q' : Int) by omega]; exact wrap_nat _ (by omega)
  · rw [show (r : Int) + (y1 : Int) = ((r + y1 : Nat) : Int) by simp]; exact wrap_nat _ (by omega)
  · rcases Nat.lt_or_ge (r + y1) 4294967296 with h | h
    · exact .inr ⟨h, h1, by omega, by omega, by omega⟩
    · exact .inl ⟨h, D.brk _ _ h1 h (by omega)⟩
theorem dig_round {u d y1 y0 Q R q r : Nat} (D : Dig u d y1 y0 Q R) (hq : q * y1 + r = u) (hr : r < 4294967296) (hQ : Q ≤ q) (hqb : q < 17179869184) (b2 : y1 < 4294967296) (b3 : y0 < 4294967296) (hd : d < 4294967296) :
    (4294967296 ≤ q ∧ Less u y1 Q q r) ∨ (q < 4294967296 ∧ ∃ P S T : Nat, IntKind.u64.wrap ((q : Int) * (y0 : Int)) = (P : Int) ∧ IntKind.u64.wrap (4294967296 * (r : Int)) = (S : Int) ∧ IntKind.u64.wrap ((S : Int) + (d : Int)) = (T : Int) ∧
      ((P ≤ T ∧ q = Q) ∨ (T < P ∧ Less u y1 Q q r))) := by
  rcases Nat.lt_or_ge q 4294967296 with h | h
  · have hP : q * y0 < 18446744073709551616 := by
      have : q * y0 ≤ 4294967295 * 4294967295 := Nat.mul_le_mul (by omega) (by omega)
      omega
    refine .inr ⟨h, q * y0, 4294967296 * r, 4294967296 * r + d, ?_, ?_, ?_, ?_⟩
    · rw [show (q : Int) * (y0 : Int) = ((q * y0 : Nat) : Int) by simp]; exact wrap_nat _ hP
    · rw [show 4294967296 * (r : Int) = ((4294967296 * r : Nat) : Int) by simp]; exact wrap_nat _ (by omega)
    · rw [show ((4294967296 * r : Nat) : Int) + (d : Int) = ((4294967296 * r + d : Nat) : Int) by simp]; exact wrap_nat _ (by omega)
    · rcases Nat.lt_or_ge (4294967296 * r + d) (q * y0) with h1 | h1
      · exact .inr ⟨h1, dig_less D hq hr (D.dec2 _ _ hq h1) hqb b2⟩
      · exact .inl ⟨h1, D.stay _ _ hq h1 hQ⟩
  · exact .inl ⟨h, dig_less D hq hr (D.dec1 _ h) hqb b2⟩
/-- The first guess. -/
theorem dig_start {u d y1 y0 Q R : Nat} (D : Dig u d y1 y0 Q R) (hu : u < 18446744073709551616) :
    ∃ q p r : Nat, IntKind.u64.wrap ((u : Int) / (y1 : Int)) = (q : Int) ∧ IntKind.u64.wrap ((q : Int) * (y1 : Int)) = (p : Int) ∧ IntKind.u64.wrap ((u : Int) - (p : Int)) = (r : Int) ∧
      q * y1 + r = u ∧ r < 4294967296 ∧ Q ≤ q ∧ q < 17179869184 := by
  obtain ⟨h1, h2, h3, h4⟩ := D.init
  refine ⟨u / y1, u / y1 * y1, u % y1, ?_, ?_, ?_, h1, h4, h2, h3⟩
  · rw [show (u : Int) / (y1 : Int) = ((u / y1 : Nat) : Int) by simp]; exact wrap_nat _ (by omega)
  · rw [show ((u / y1 : Nat) : Int) * (y1 : Int) = ((u / y1 * y1 : Nat) : Int) by simp]; exact wrap_nat _ (by omega)
  · generalize u / y1 * y1 = z at *
    generalize u % y1 = r at *
    rw [show (u : Int) - (z : Int) = (r : Int) by omega]; exact wrap_nat _ (by omega)
/-- The rest of a digit. -/
theorem dig_rest {u d y1 y0 Y Q R : Nat} (D : Dig u d y1 y0 Q R) (hY : Y = y1 * 4294967296 + y0) (hR : R < 18446744073709551616) :
    ∃ a b c : Nat, IntKind.u64.wrap ((u : Int) * 4294967296) = (a : Int) ∧ IntKind.u64.wrap ((a : Int) + (d : Int)) = (b : Int) ∧ IntKind.u64.wrap ((Q : Int) * (Y : Int)) = (c : Int) ∧ IntKind.u64.wrap ((b : Int) - (c : Int)) = (R : Int) := by
  have h := D.rest
  rw [← hY] at h
  have key := wrap_rest h hR
  rw [show ((u * 4294967296 : Nat) : Int) = (u : Int) * 4294967296 by simp, show ((Q * Y : Nat) : Int) = (Q : Int) * (Y : Int) by simp] at key
  have tot : ∀ x : Int, ∃ n : Nat, IntKind.u64.wrap x = (n : Int) := fun x => ⟨(x % 18446744073709551616).toNat, by rw [IntKind.wrap_u64]; omega⟩
  obtain ⟨a, ha⟩ := tot ((u : Int) * 4294967296)
  obtain ⟨b, hb⟩ := tot ((a : Int) + (d : Int))
  obtain ⟨c, hc⟩ := tot ((Q : Int) * (Y : Int))
  rw [ha, hb, hc] at key
  exact ⟨a, b, c, ha, hb, hc, key⟩
theorem dig_quo {u1 d1 u0 d0 y1 y0 Q1 R1 Q0 R0 QQ : Nat} (D1 : Dig u1 d1 y1 y0 Q1 R1) (D0 : Dig u0 d0 y1 y0 Q0 R0) (h : QQ = Q1 * 4294967296 + Q0) :
    ∃ a : Nat, IntKind.u64.wrap ((Q1 : Int) * 4294967296) = (a : Int) ∧ IntKind.u64.wrap ((a : Int) + (Q0 : Int)) = (QQ : Int) := by
  have h1 := D1.small
  have h2 := D0.small
  refine ⟨Q1 * 4294967296, ?_, ?_⟩
  · rw [show (Q1 : Int) * 4294967296 = ((Q1 * 4294967296 : Nat) : Int) by simp]; exact wrap_nat _ (by omega)
  · rw [show ((Q1 * 4294967296 : Nat) : Int) + (Q0 : Int) = ((QQ : Nat) : Int) by omega]; exact wrap_nat _ (by omega)
end Go.Proofs.Ytkaejoejaohpcaa
