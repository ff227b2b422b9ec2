/- math/bits.Div64: what it answers. Condition: the quotient is one word. -/
import Derived.Test.YtkaejoejaohpcaaMul
import Derived.Test.YtkaejoejaohpcaaD64L
set_option linter.unusedSimpArgs false
set_option linter.unusedVariables false
namespace Go.Proofs.Ytkaejoejaohpcaa
open Go.RowKit
set_option maxHeartbeats 800000 in
set_option maxRecDepth 20000 in
theorem div64_zero (lo y q r : Nat) (w : World) (h0 : 0 < y) (hy : y < 18446744073709551616) (hl : lo < 18446744073709551616) (hq : lo / y = q) (hr : lo % y = r) :
    Calls Try.prog 21 #[.int .u64 0, .int .u64 lo, .int .u64 y] w fun e w' => e = .returned (.tuple #[.int .u64 (q : Int), .int .u64 (r : Int)]) ∧ Below w.heap.size w w' := by
  have t1 : ((y : Int) == 0) = false := by rw [beq_eq_false_iff_ne]; omega
  have t2 : decide ((y : Int) ≤ 0) = false := decide_eq_false (by omega)
  have t3 : (0 : Int) < y := by omega
  have t4 : IntKind.u64.wrap ((lo : Int) / (y : Int)) = (q : Int) := by
    rw [show (lo : Int) / (y : Int) = ((lo / y : Nat) : Int) by simp, hq]
    exact wrap_nat _ (by rw [← hq]; exact Nat.lt_of_le_of_lt (Nat.div_le_self _ _) hl)
  have t5 : (lo : Int) % (y : Int) = (r : Int) := by rw [← hr]; simp
  clear h0 hq hr
  go_enter Try.func21, Try.ntmps21
  go_wp2_with fail
  go_quiet (fail)
  go_wp2_with fail
  go_ret2
  exact ⟨by rw [← t5]; rfl, (Below.refl _ _).drewN _⟩
set_option maxHeartbeats 800000 in
set_option maxRecDepth 20000 in
theorem div64_pos (hi lo y QQ RR : Nat) (w : World) (h0 : 0 < hi) (hhy : hi < y) (hy : y < 18446744073709551616) (hl : lo < 18446744073709551616)
    (hQQ : (hi * 18446744073709551616 + lo) / y = QQ) (hRR : (hi * 18446744073709551616 + lo) % y = RR) :
    Calls Try.prog 21 #[.int .u64 hi, .int .u64 lo, .int .u64 y] w fun e w' => e = .returned (.tuple #[.int .u64 (QQ : Int), .int .u64 (RR : Int)]) ∧ Below w.heap.size w w' := by
  have t1 : ((y : Int) == 0) = false := by rw [beq_eq_false_iff_ne]; omega
  have t2 : decide ((y : Int) ≤ (hi : Int)) = false := decide_eq_false (by omega)
  have t2' : decide (y ≤ hi) = false := decide_eq_false (by omega)
  have t3 : ((hi : Int) == 0) = false := by rw [beq_eq_false_iff_ne]; omega
  obtain ⟨s, u, v1, v0, m, t, x, Y, p, hs1, hs, hp, ⟨e1, e2, e3, e4, e5, e6, e7⟩, hu, hv1, hv0, hY1, hY2, hF1, hF2⟩ := norm_all h0 hhy hl hy
  rw [hQQ] at hF1
  rw [hRR] at hF2
  have HZ : Hid (Calls Try.prog 25 #[.int .u64 y] w fun e w' => e = .returned (.int .i64 (s : Int)) ∧ w = w') := (Try.bits_LeadingZeros64 y w (by omega) (by omega)).mono fun e w' ⟨h1, h2⟩ => ⟨by rw [h1, Int.toNat_natCast]; congr 2; omega, h2.symm⟩
  clear hQQ hRR hs1 h0 hhy hy hl
  have hz : ((64 : Int) - (s : Int)).toNat = 64 - s := by omega
  obtain ⟨y1, hy1⟩ : ∃ y1, Y / 4294967296 = y1 := ⟨_, rfl⟩
  obtain ⟨y0, hy0⟩ : ∃ y0, Y % 4294967296 = y0 := ⟨_, rfl⟩
  have f1 : (Y : Int) / 4294967296 = (y1 : Int) := by rw [← hy1]; rfl
  have f2 : bits .and .u64 (Y : Int) 4294967295 = (y0 : Int) := by rw [and32 _ hY2, hy0]
  have hYy : Y = y1 * 4294967296 + y0 := by omega
  have b1 : 2147483648 ≤ y1 := by omega
  have b2 : y1 < 4294967296 := by omega
  have b3 : y0 < 4294967296 := by omega
  obtain ⟨Q1, hQ1⟩ : ∃ Q1, (u * 4294967296 + v1) / Y = Q1 := ⟨_, rfl⟩
  obtain ⟨R1, hR1⟩ : ∃ R1, (u * 4294967296 + v1) % Y = R1 := ⟨_, rfl⟩
  rw [hQ1, hR1] at hF1
  rw [hR1] at hF2
  obtain ⟨Q0, hQ0⟩ : ∃ Q0, (R1 * 4294967296 + v0) / Y = Q0 := ⟨_, rfl⟩
  obtain ⟨R0, hR0⟩ : ∃ R0, (R1 * 4294967296 + v0) % Y = R0 := ⟨_, rfl⟩
  rw [hQ0] at hF1
  rw [hR0] at hF2
  have hR1Y : R1 < Y := by rw [← hR1]; exact Nat.mod_lt _ (by omega)
  have hR0Y : R0 < Y := by rw [← hR0]; exact Nat.mod_lt _ (by omega)
  have D1 : Hid (Dig u v1 y1 y0 Q1 R1) := dig hYy b3 b1 hY2 hu hv1 hQ1 hR1
  have D0 : Hid (Dig R1 v0 y1 y0 Q0 R0) := dig hYy b3 b1 hY2 hR1Y hv0 hQ0 hR0
  clear hQ1 hR1 hQ0 hR0 hy1 hy0
  have HF1 := Lib.hid hF1
  have HF2 := Lib.hid hF2
  have HYy := Lib.hid hYy
  have HP := Lib.hid hp
  clear hF1 hF2 hYy hp
  have t8 : decide ((y1 : Int) = 0) = false := decide_eq_false (by omega)
  have t9 : (0 : Int) < y1 := by omega
  have hS : (s : Int) ≤ 63 := by omega
  obtain ⟨qa, pa, ra, p1, p2, p3, g1, g2, g3, g4⟩ := dig_start D1.out (by omega)
  have HG1 : Hid (qa * y1 + ra = u ∧ ra < 4294967296 ∧ Q1 ≤ qa ∧ qa < 17179869184) := ⟨g1, g2, g3, g4⟩
  clear g1 g2 g3 g4
  have HREST1 := Lib.hid (dig_rest D1.out HYy.out (by omega))
  have HREST0 := Lib.hid (dig_rest D0.out HYy.out (by omega))
  have HQUO := Lib.hid (dig_quo D1.out D0.out HF1.out)
  have HRS : Hid ((R0 : Int) / 2 ^ s = (RR : Int)) := by
    show _ = _
    rw [HF2.out, ← HP.out]; simp
  have HR164 : Hid (R1 < 18446744073709551616) := by show _ < _; omega
  have HT9 := Lib.hid t9
  have HS63 := Lib.hid hS
  go_enter Try.func21, Try.ntmps21
  go_wp2_with fail
  refine HZ.out.mono ?_
  rintro e w1 ⟨rfl, rfl⟩
  go_wp2_with fail
  clear HZ e1 e2 e3 e4 e5 e6 e7 f1 f2 t1 t2 t2' t3 t8 t9 hz hS p1 p2 p3
  go_loop [15, 16] (fun qv rv => ∃ q r : Nat, qv = .int .u64 q ∧ rv = .int .u64 r ∧ Hid (q * y1 + r = u ∧ r < 4294967296 ∧ Q1 ≤ q ∧ q < 17179869184)) (fun qv _ => (intOf qv).toNat)
  case atStart => exact ⟨_, _, rfl, rfl, HG1.out⟩
  case round =>
    clear HG1
    obtain ⟨q, r, rfl, rfl, HQ⟩ := hrel
    obtain ⟨g1, g2, g3, g4⟩ := HQ.out
    rcases dig_round D1.out g1 g2 g3 g4 b2 b3 hv1 with ⟨h1, q', r', k1, k2, ⟨h2, h3⟩ | ⟨h2, h3, h4, h5, h6⟩⟩ | ⟨h1, P, S, T, k1, k2, k3, ⟨h2, h3⟩ | ⟨h2, q', r', k4, k5, ⟨h6, h3⟩ | ⟨h6, h7, h8, h9, h10⟩⟩⟩
    · obtain rfl : Q1 = q' := h3.symm
      have j1 : decide (4294967296 ≤ q) = true := decide_eq_true h1
      have j1' : decide ((4294967296 : Int) ≤ (q : Int)) = true := decide_eq_true (by omega)
      have j2 : decide (4294967296 ≤ r') = true := decide_eq_true h2
      have j2' : decide ((4294967296 : Int) ≤ (r' : Int)) = true := decide_eq_true (by omega)
      clear g1 g2 g3 g4 h1 h2
      obtain ⟨a1, a2, a3, x1, x2, x3, x4⟩ := HREST1.out
      obtain ⟨qb, pb, rb, x5, x6, x7, gg1, gg2, gg3, gg4⟩ := dig_start D0.out HR164.out
      have HG2 : Hid (qb * y1 + rb = R1 ∧ rb < 4294967296 ∧ Q0 ≤ qb ∧ qb < 17179869184) := ⟨gg1, gg2, gg3, gg4⟩
      have t9 := HT9.out
      have hS := HS63.out
      clear gg1 gg2 gg3 gg4
      go_wp2_with fail
      clear x1 x2 x3 x4 x5 x6 x7 t9
      go_loop [18, 16] (fun qv rv => ∃ q r : Nat, qv = .int .u64 q ∧ rv = .int .u64 r ∧ Hid (q * y1 + r = R1 ∧ r < 4294967296 ∧ Q0 ≤ q ∧ q < 17179869184)) (fun qv _ => (intOf qv).toNat)
      case atStart => exact ⟨_, _, rfl, rfl, HG2.out⟩
      case round =>
        clear HG2 HQ k1 k2
        obtain ⟨q, r, rfl, rfl, HQ⟩ := hrel
        obtain ⟨g1, g2, g3, g4⟩ := HQ.out
        rcases dig_round D0.out g1 g2 g3 g4 b2 b3 hv0 with ⟨h1, q', r', k1, k2, ⟨h2, h3⟩ | ⟨h2, h3, h4, h5, h6⟩⟩ | ⟨h1, P, S, T, k1, k2, k3, ⟨h2, h3⟩ | ⟨h2, q', r', k4, k5, ⟨h6, h3⟩ | ⟨h6, h7, h8, h9, h10⟩⟩⟩
        · obtain rfl : Q0 = q' := h3.symm
          have j1 : decide (4294967296 ≤ q) = true := decide_eq_true h1
          have j1' : decide ((4294967296 : Int) ≤ (q : Int)) = true := decide_eq_true (by omega)
          have j2 : decide (4294967296 ≤ r') = true := decide_eq_true h2
          have j2' : decide ((4294967296 : Int) ≤ (r' : Int)) = true := decide_eq_true (by omega)
          clear g1 g2 g3 g4 h1 h2
          obtain ⟨a4, x1, x2⟩ := HQUO.out
          obtain ⟨a5, a6, a7, x3, x4, x5, x6⟩ := HREST0.out
          have x7 : (R0 : Int) / 2 ^ s = (RR : Int) := HRS.out
          go_wp2_with fail
          go_ret2
          exact ⟨rfl, Below.refl _ _⟩
        · have j1 : decide (4294967296 ≤ q) = true := decide_eq_true h1
          have j1' : decide ((4294967296 : Int) ≤ (q : Int)) = true := decide_eq_true (by omega)
          have j2 : decide (4294967296 ≤ r') = false := decide_eq_false (by omega)
          have j2' : decide ((4294967296 : Int) ≤ (r' : Int)) = false := decide_eq_false (by omega)
          have H := Lib.hid (And.intro h3 (And.intro h2 (And.intro h4 h5)))
          clear g1 g2 g3 g4 h1 h2 h3 h4 h5
          go_wp2_with fail
          go_round
          case rel => exact ⟨_, _, rfl, rfl, H.out⟩
          case measure => simp [intOf]; omega
        · obtain rfl : Q0 = q := h3.symm
          have j1 : decide (4294967296 ≤ Q0) = false := decide_eq_false (by omega)
          have j1' : decide ((4294967296 : Int) ≤ (Q0 : Int)) = false := decide_eq_false (by omega)
          have j2 : decide (T < P) = false := decide_eq_false (by omega)
          have j2' : decide ((T : Int) < (P : Int)) = false := decide_eq_false (by omega)
          clear g1 g2 g3 g4 h1 h2
          obtain ⟨a4, x1, x2⟩ := HQUO.out
          obtain ⟨a5, a6, a7, x3, x4, x5, x6⟩ := HREST0.out
          have x7 : (R0 : Int) / 2 ^ s = (RR : Int) := HRS.out
          go_wp2_with fail
          go_ret2
          exact ⟨rfl, Below.refl _ _⟩
        · obtain rfl : Q0 = q' := h3.symm
          have j1 : decide (4294967296 ≤ q) = false := decide_eq_false (by omega)
          have j1' : decide ((4294967296 : Int) ≤ (q : Int)) = false := decide_eq_false (by omega)
          have j2 : decide (T < P) = true := decide_eq_true h2
          have j2' : decide ((T : Int) < (P : Int)) = true := decide_eq_true (by omega)
          have j3 : decide (4294967296 ≤ r') = true := decide_eq_true h6
          have j3' : decide ((4294967296 : Int) ≤ (r' : Int)) = true := decide_eq_true (by omega)
          clear g1 g2 g3 g4 h1 h2 h6
          obtain ⟨a4, x1, x2⟩ := HQUO.out
          obtain ⟨a5, a6, a7, x3, x4, x5, x6⟩ := HREST0.out
          have x7 : (R0 : Int) / 2 ^ s = (RR : Int) := HRS.out
          go_wp2_with fail
          go_ret2
          exact ⟨rfl, Below.refl _ _⟩
        · have j1 : decide (4294967296 ≤ q) = false := decide_eq_false (by omega)
          have j1' : decide ((4294967296 : Int) ≤ (q : Int)) = false := decide_eq_false (by omega)
          have j2 : decide (T < P) = true := decide_eq_true h2
          have j2' : decide ((T : Int) < (P : Int)) = true := decide_eq_true (by omega)
          have j3 : decide (4294967296 ≤ r') = false := decide_eq_false (by omega)
          have j3' : decide ((4294967296 : Int) ≤ (r' : Int)) = false := decide_eq_false (by omega)
          have H := Lib.hid (And.intro h7 (And.intro h6 (And.intro h8 h9)))
          clear g1 g2 g3 g4 h1 h2 h6 h7 h8 h9
          go_wp2_with fail
          go_round
          case rel => exact ⟨_, _, rfl, rfl, H.out⟩
          case measure => simp [intOf]; omega
    · have j1 : decide (4294967296 ≤ q) = true := decide_eq_true h1
      have j1' : decide ((4294967296 : Int) ≤ (q : Int)) = true := decide_eq_true (by omega)
      have j2 : decide (4294967296 ≤ r') = false := decide_eq_false (by omega)
      have j2' : decide ((4294967296 : Int) ≤ (r' : Int)) = false := decide_eq_false (by omega)
      have H := Lib.hid (And.intro h3 (And.intro h2 (And.intro h4 h5)))
      clear g1 g2 g3 g4 h1 h2 h3 h4 h5
      go_wp2_with fail
      go_round
      case rel => exact ⟨_, _, rfl, rfl, H.out⟩
      case measure => simp [intOf]; omega
    · obtain rfl : Q1 = q := h3.symm
      have j1 : decide (4294967296 ≤ Q1) = false := decide_eq_false (by omega)
      have j1' : decide ((4294967296 : Int) ≤ (Q1 : Int)) = false := decide_eq_false (by omega)
      have j2 : decide (T < P) = false := decide_eq_false (by omega)
      have j2' : decide ((T : Int) < (P : Int)) = false := decide_eq_false (by omega)
      clear g1 g2 g3 g4 h1 h2
      obtain ⟨a1, a2, a3, x1, x2, x3, x4⟩ := HREST1.out
      obtain ⟨qb, pb, rb, x5, x6, x7, gg1, gg2, gg3, gg4⟩ := dig_start D0.out HR164.out
      have HG2 : Hid (qb * y1 + rb = R1 ∧ rb < 4294967296 ∧ Q0 ≤ qb ∧ qb < 17179869184) := ⟨gg1, gg2, gg3, gg4⟩
      have t9 := HT9.out
      have hS := HS63.out
      clear gg1 gg2 gg3 gg4
      go_wp2_with fail
      clear x1 x2 x3 x4 x5 x6 x7 t9
      go_loop [18, 16] (fun qv rv => ∃ q r : Nat, qv = .int .u64 q ∧ rv = .int .u64 r ∧ Hid (q * y1 + r = R1 ∧ r < 4294967296 ∧ Q0 ≤ q ∧ q < 17179869184)) (fun qv _ => (intOf qv).toNat)
      case atStart => exact ⟨_, _, rfl, rfl, HG2.out⟩
      case round =>
        clear HG2 HQ k1 k2
        obtain ⟨q, r, rfl, rfl, HQ⟩ := hrel
        obtain ⟨g1, g2, g3, g4⟩ := HQ.out
        rcases dig_round D0.out g1 g2 g3 g4 b2 b3 hv0 with ⟨h1, q', r', k1, k2, ⟨h2, h3⟩ | ⟨h2, h3, h4, h5, h6⟩⟩ | ⟨h1, P, S, T, k1, k2, k3, ⟨h2, h3⟩ | ⟨h2, q', r', k4, k5, ⟨h6, h3⟩ | ⟨h6, h7, h8, h9, h10⟩⟩⟩
        · obtain rfl : Q0 = q' := h3.symm
          have j1 : decide (4294967296 ≤ q) = true := decide_eq_true h1
          have j1' : decide ((4294967296 : Int) ≤ (q : Int)) = true := decide_eq_true (by omega)
          have j2 : decide (4294967296 ≤ r') = true := decide_eq_true h2
          have j2' : decide ((4294967296 : Int) ≤ (r' : Int)) = true := decide_eq_true (by omega)
          clear g1 g2 g3 g4 h1 h2
          obtain ⟨a4, x1, x2⟩ := HQUO.out
          obtain ⟨a5, a6, a7, x3, x4, x5, x6⟩ := HREST0.out
          have x7 : (R0 : Int) / 2 ^ s = (RR : Int) := HRS.out
          go_wp2_with fail
          go_ret2
          exact ⟨rfl, Below.refl _ _⟩
        · have j1 : decide (4294967296 ≤ q) = true := decide_eq_true h1
          have j1' : decide ((4294967296 : Int) ≤ (q : Int)) = true := decide_eq_true (by omega)
          have j2 : decide (4294967296 ≤ r') = false := decide_eq_false (by omega)
          have j2' : decide ((4294967296 : Int) ≤ (r' : Int)) = false := decide_eq_false (by omega)
          have H := Lib.hid (And.intro h3 (And.intro h2 (And.intro h4 h5)))
          clear g1 g2 g3 g4 h1 h2 h3 h4 h5
          go_wp2_with fail
          go_round
          case rel => exact ⟨_, _, rfl, rfl, H.out⟩
          case measure => simp [intOf]; omega
        · obtain rfl : Q0 = q := h3.symm
          have j1 : decide (4294967296 ≤ Q0) = false := decide_eq_false (by omega)
          have j1' : decide ((4294967296 : Int) ≤ (Q0 : Int)) = false := decide_eq_false (by omega)
          have j2 : decide (T < P) = false := decide_eq_false (by omega)
          have j2' : decide ((T : Int) < (P : Int)) = false := decide_eq_false (by omega)
          clear g1 g2 g3 g4 h1 h2
          obtain ⟨a4, x1, x2⟩ := HQUO.out
          obtain ⟨a5, a6, a7, x3, x4, x5, x6⟩ := HREST0.out
          have x7 : (R0 : Int) / 2 ^ s = (RR : Int) := HRS.out
          go_wp2_with fail
          go_ret2
          exact ⟨rfl, Below.refl _ _⟩
        · obtain rfl : Q0 = q' := h3.symm
          have j1 : decide (4294967296 ≤ q) = false := decide_eq_false (by omega)
          have j1' : decide ((4294967296 : Int) ≤ (q : Int)) = false := decide_eq_false (by omega)
          have j2 : decide (T < P) = true := decide_eq_true h2
          have j2' : decide ((T : Int) < (P : Int)) = true := decide_eq_true (by omega)
          have j3 : decide (4294967296 ≤ r') = true := decide_eq_true h6
          have j3' : decide ((4294967296 : Int) ≤ (r' : Int)) = true := decide_eq_true (by omega)
          clear g1 g2 g3 g4 h1 h2 h6
          obtain ⟨a4, x1, x2⟩ := HQUO.out
          obtain ⟨a5, a6, a7, x3, x4, x5, x6⟩ := HREST0.out
          have x7 : (R0 : Int) / 2 ^ s = (RR : Int) := HRS.out
          go_wp2_with fail
          go_ret2
          exact ⟨rfl, Below.refl _ _⟩
        · have j1 : decide (4294967296 ≤ q) = false := decide_eq_false (by omega)
          have j1' : decide ((4294967296 : Int) ≤ (q : Int)) = false := decide_eq_false (by omega)
          have j2 : decide (T < P) = true := decide_eq_true h2
          have j2' : decide ((T : Int) < (P : Int)) = true := decide_eq_true (by omega)
          have j3 : decide (4294967296 ≤ r') = false := decide_eq_false (by omega)
          have j3' : decide ((4294967296 : Int) ≤ (r' : Int)) = false := decide_eq_false (by omega)
          have H := Lib.hid (And.intro h7 (And.intro h6 (And.intro h8 h9)))
          clear g1 g2 g3 g4 h1 h2 h6 h7 h8 h9
          go_wp2_with fail
          go_round
          case rel => exact ⟨_, _, rfl, rfl, H.out⟩
          case measure => simp [intOf]; omega
    · obtain rfl : Q1 = q' := h3.symm
      have j1 : decide (4294967296 ≤ q) = false := decide_eq_false (by omega)
      have j1' : decide ((4294967296 : Int) ≤ (q : Int)) = false := decide_eq_false (by omega)
      have j2 : decide (T < P) = true := decide_eq_true h2
      have j2' : decide ((T : Int) < (P : Int)) = true := decide_eq_true (by omega)
      have j3 : decide (4294967296 ≤ r') = true := decide_eq_true h6
      have j3' : decide ((4294967296 : Int) ≤ (r' : Int)) = true := decide_eq_true (by omega)
      clear g1 g2 g3 g4 h1 h2 h6
      obtain ⟨a1, a2, a3, x1, x2, x3, x4⟩ := HREST1.out
      obtain ⟨qb, pb, rb, x5, x6, x7, gg1, gg2, gg3, gg4⟩ := dig_start D0.out HR164.out
      have HG2 : Hid (qb * y1 + rb = R1 ∧ rb < 4294967296 ∧ Q0 ≤ qb ∧ qb < 17179869184) := ⟨gg1, gg2, gg3, gg4⟩
      have t9 := HT9.out
      have hS := HS63.out
      clear gg1 gg2 gg3 gg4
      go_wp2_with fail
      clear x1 x2 x3 x4 x5 x6 x7 t9
      go_loop [18, 16] (fun qv rv => ∃ q r : Nat, qv = .int .u64 q ∧ rv = .int .u64 r ∧ Hid (q * y1 + r = R1 ∧ r < 4294967296 ∧ Q0 ≤ q ∧ q < 17179869184)) (fun qv _ => (intOf qv).toNat)
      case atStart => exact ⟨_, _, rfl, rfl, HG2.out⟩
      case round =>
        clear HG2 HQ k1 k2
        obtain ⟨q, r, rfl, rfl, HQ⟩ := hrel
        obtain ⟨g1, g2, g3, g4⟩ := HQ.out
        rcases dig_round D0.out g1 g2 g3 g4 b2 b3 hv0 with ⟨h1, q', r', k1, k2, ⟨h2, h3⟩ | ⟨h2, h3, h4, h5, h6⟩⟩ | ⟨h1, P, S, T, k1, k2, k3, ⟨h2, h3⟩ | ⟨h2, q', r', k4, k5, ⟨h6, h3⟩ | ⟨h6, h7, h8, h9, h10⟩⟩⟩
        · obtain rfl : Q0 = q' := h3.symm
          have j1 : decide (4294967296 ≤ q) = true := decide_eq_true h1
          have j1' : decide ((4294967296 : Int) ≤ (q : Int)) = true := decide_eq_true (by omega)
          have j2 : decide (4294967296 ≤ r') = true := decide_eq_true h2
          have j2' : decide ((4294967296 : Int) ≤ (r' : Int)) = true := decide_eq_true (by omega)
          clear g1 g2 g3 g4 h1 h2
          obtain ⟨a4, x1, x2⟩ := HQUO.out
          obtain ⟨a5, a6, a7, x3, x4, x5, x6⟩ := HREST0.out
          have x7 : (R0 : Int) / 2 ^ s = (RR : Int) := HRS.out
          go_wp2_with fail
          go_ret2
          exact ⟨rfl, Below.refl _ _⟩
        · have j1 : decide (4294967296 ≤ q) = true := decide_eq_true h1
          have j1' : decide ((4294967296 : Int) ≤ (q : Int)) = true := decide_eq_true (by omega)
          have j2 : decide (4294967296 ≤ r') = false := decide_eq_false (by omega)
          have j2' : decide ((4294967296 : Int) ≤ (r' : Int)) = false := decide_eq_false (by omega)
          have H := Lib.hid (And.intro h3 (And.intro h2 (And.intro h4 h5)))
          clear g1 g2 g3 g4 h1 h2 h3 h4 h5
          go_wp2_with fail
          go_round
          case rel => exact ⟨_, _, rfl, rfl, H.out⟩
          case measure => simp [intOf]; omega
        · obtain rfl : Q0 = q := h3.symm
          have j1 : decide (4294967296 ≤ Q0) = false := decide_eq_false (by omega)
          have j1' : decide ((4294967296 : Int) ≤ (Q0 : Int)) = false := decide_eq_false (by omega)
          have j2 : decide (T < P) = false := decide_eq_false (by omega)
          have j2' : decide ((T : Int) < (P : Int)) = false := decide_eq_false (by omega)
          clear g1 g2 g3 g4 h1 h2
          obtain ⟨a4, x1, x2⟩ := HQUO.out
          obtain ⟨a5, a6, a7, x3, x4, x5, x6⟩ := HREST0.out
          have x7 : (R0 : Int) / 2 ^ s = (RR : Int) := HRS.out
          go_wp2_with fail
          go_ret2
          exact ⟨rfl, Below.refl _ _⟩
        · obtain rfl : Q0 = q' := h3.symm
          have j1 : decide (4294967296 ≤ q) = false := decide_eq_false (by omega)
          have j1' : decide ((4294967296 : Int) ≤ (q : Int)) = false := decide_eq_false (by omega)
          have j2 : decide (T < P) = true := decide_eq_true h2
          have j2' : decide ((T : Int) < (P : Int)) = true := decide_eq_true (by omega)
          have j3 : decide (4294967296 ≤ r') = true := decide_eq_true h6
          have j3' : decide ((4294967296 : Int) ≤ (r' : Int)) = true := decide_eq_true (by omega)
          clear g1 g2 g3 g4 h1 h2 h6
          obtain ⟨a4, x1, x2⟩ := HQUO.out
          obtain ⟨a5, a6, a7, x3, x4, x5, x6⟩ := HREST0.out
          have x7 : (R0 : Int) / 2 ^ s = (RR : Int) := HRS.out
          go_wp2_with fail
          go_ret2
          exact ⟨rfl, Below.refl _ _⟩
        · have j1 : decide (4294967296 ≤ q) = false := decide_eq_false (by omega)
          have j1' : decide ((4294967296 : Int) ≤ (q : Int)) = false := decide_eq_false (by omega)
          have j2 : decide (T < P) = true := decide_eq_true h2
          have j2' : decide ((T : Int) < (P : Int)) = true := decide_eq_true (by omega)
          have j3 : decide (4294967296 ≤ r') = false := decide_eq_false (by omega)
          have j3' : decide ((4294967296 : Int) ≤ (r' : Int)) = false := decide_eq_false (by omega)
          have H := Lib.hid (And.intro h7 (And.intro h6 (And.intro h8 h9)))
          clear g1 g2 g3 g4 h1 h2 h6 h7 h8 h9
          go_wp2_with fail
          go_round
          case rel => exact ⟨_, _, rfl, rfl, H.out⟩
          case measure => simp [intOf]; omega
    · have j1 : decide (4294967296 ≤ q) = false := decide_eq_false (by omega)
      have j1' : decide ((4294967296 : Int) ≤ (q : Int)) = false := decide_eq_false (by omega)
      have j2 : decide (T < P) = true := decide_eq_true h2
      have j2' : decide ((T : Int) < (P : Int)) = true := decide_eq_true (by omega)
      have j3 : decide (4294967296 ≤ r') = false := decide_eq_false (by omega)
      have j3' : decide ((4294967296 : Int) ≤ (r' : Int)) = false := decide_eq_false (by omega)
      have H := Lib.hid (And.intro h7 (And.intro h6 (And.intro h8 h9)))
      clear g1 g2 g3 g4 h1 h2 h6 h7 h8 h9
      go_wp2_with fail
      go_round
      case rel => exact ⟨_, _, rfl, rfl, H.out⟩
      case measure => simp [intOf]; omega
theorem div64_any (hi lo y Q R : Nat) (w : World) (hhy : hi < y) (hy : y < 18446744073709551616) (hl : lo < 18446744073709551616)
    (hQ : (hi * 18446744073709551616 + lo) / y = Q) (hR : (hi * 18446744073709551616 + lo) % y = R) :
    Calls Try.prog 21 #[.int .u64 hi, .int .u64 lo, .int .u64 y] w fun e w' => e = .returned (.tuple #[.int .u64 (Q : Int), .int .u64 (R : Int)]) ∧ Below w.heap.size w w' := by
  rcases Nat.eq_zero_or_pos hi with h | h
  · subst h
    rw [Nat.zero_mul, Nat.zero_add] at hQ hR
    exact div64_zero lo y Q R w hhy hy hl hQ hR
  · exact div64_pos hi lo y Q R w h hhy hy hl hQ hR
end Go.Proofs.Ytkaejoejaohpcaa
