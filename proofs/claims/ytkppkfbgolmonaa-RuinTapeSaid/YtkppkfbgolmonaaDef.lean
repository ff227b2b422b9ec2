/- ruin.gcd, row, pow, low, Wrong, Well: what they reckon. No condition. -/
import Derived.Test.YtkppkfbgolmonaaGen
set_option linter.unusedSimpArgs false
set_option linter.unusedVariables false
namespace Go.Proofs.Ytkppkfbgolmonaa
open Go.RowKit
set_option maxHeartbeats 400000 in
theorem gcd17 (a b : Nat) (w : World) : Calls Try.prog 17 #[.int .i64 a, .int .i64 b] w fun e w' => e = .returned (.int .i64 (Nat.gcd a b : Nat)) ∧ Below w.heap.size w w' := by
  go_enter Try.func17, Try.ntmps17
  go_wp2_with fail
  go_loopw [0, 1] (fun av bv wr => ∃ x y : Nat, av = .int .i64 x ∧ bv = .int .i64 y ∧ Hid (Nat.gcd x y = Nat.gcd a b) ∧ Below w.heap.size w wr) (fun _ bv _ => (intOf bv).toNat)
  case atStart => exact ⟨a, b, rfl, rfl, rfl, Below.refl _ _⟩
  case round =>
    obtain ⟨x, y, rfl, rfl, hg, hbel⟩ := hrel
    by_cases hy : 0 < y
    · have HG : Hid (Nat.gcd y (x % y) = Nat.gcd a b) := by
        show _ = _
        rw [← hg.out, Nat.gcd_comm y, ← Nat.gcd_rec, Nat.gcd_comm]
      have hlt : x % y < y := Nat.mod_lt _ hy
      go_wp2_with fail
      go_quiet (fail)
      go_wp2_with fail
      go_roundw
      case rel => exact ⟨y, x % y, rfl, rfl, HG.out, hbel.drewN _⟩
      case measure => simp [intOf]; omega
    · obtain rfl : y = 0 := by omega
      have HG : Hid (Nat.gcd a b = x) := by show _ = _; rw [← hg.out, Nat.gcd_zero_right]
      go_wp2_with fail
      go_ret
      exact ⟨by rw [HG.out]; rfl, hbel⟩
theorem pow9 (a k : Nat) (ha : a ≤ 9) (hk : k ≤ 16) : a ^ k ≤ 1853020188851841 := by
  have h1 := Nat.pow_le_pow_left ha k
  have h2 := Nat.pow_le_pow_right (show 0 < 9 by omega) hk
  simp at h2; omega
theorem pow9b (a b x y : Nat) (ha : a ≤ 9) (hb : b ≤ 9) (hk : x + y ≤ 16) : a ^ x * b ^ y ≤ 1853020188851841 := by
  have h1 := Nat.pow_le_pow_left ha x
  have h2 := Nat.pow_le_pow_left hb y
  have h3 := Nat.mul_le_mul h1 h2
  rw [← Nat.pow_add] at h3
  have h4 := Nat.pow_le_pow_right (show 0 < 9 by omega) hk
  simp at h4; omega
theorem pow20 (a k : Nat) (ha : a ≤ 9) (hk : k ≤ 16) (w : World) : Calls Try.prog 20 #[.int .i64 a, .int .i64 k] w fun e w' => e = .returned (.int .i64 (a ^ k : Nat)) ∧ w = w' := by
  have HB := Lib.hid (fun i hi => pow9 a i ha hi)
  have HS := Lib.hid (fun i => Nat.pow_succ (n := a) (m := i))
  go_enter Try.func20, Try.ntmps20
  go_wp2_with fail
  go_loop [5, 7] (fun pv iv => ∃ i : Nat, i ≤ k ∧ iv = .int .i64 i ∧ pv = .int .i64 (a ^ i : Nat)) (fun _ iv => k - (intOf iv).toNat)
  case atStart => exact ⟨0, Nat.zero_le _, rfl, rfl⟩
  case round =>
    obtain ⟨i, hi, rfl, rfl⟩ := hrel
    have b1 := HB.out i (by omega)
    by_cases hlt : i < k
    · have b2 := HB.out (i + 1) (by omega)
      rw [HS.out] at b2
      have b3 : ((a ^ i * a : Nat) : Int) ≤ 1853020188851841 := by omega
      rw [Int.natCast_mul] at b3
      have b4 : 0 ≤ ((a ^ i : Nat) : Int) * (a : Int) := Int.mul_nonneg (by omega) (by omega)
      have HE : Hid (((a ^ (i + 1) : Nat) : Int) = ((a ^ i : Nat) : Int) * (a : Int)) := by show _ = _; rw [HS.out, Int.natCast_mul]
      clear b2
      generalize a ^ i = x at *
      go_wp2_with fail
      go_round
      case rel => exact ⟨i + 1, by omega, by go_num, by rw [HE.out]⟩
      case measure => simp [intOf]; omega
    · obtain rfl : i = k := by omega
      generalize hx : a ^ i = x at *
      have HX := Lib.hid hx; clear hx
      go_wp2_with fail
      go_ret
      exact ⟨by rw [← Int.natCast_pow, HX.out]; rfl, rfl⟩
def rsum (a b n : Nat) : Nat → Nat
  | 0 => 0
  | i + 1 => rsum a b n i + a ^ (n - 1 - i) * b ^ i
theorem rsum_bd (a b n : Nat) (ha : a ≤ 9) (hb : b ≤ 9) (hn : n ≤ 16) : ∀ i, i ≤ n → rsum a b n i ≤ 1853020188851841 * i := by
  intro i
  induction i with
  | zero => intro _; simp [rsum]
  | succ i ih =>
    intro hi
    have := ih (by omega)
    have := pow9b a b (n - 1 - i) i ha hb (by omega)
    rw [rsum]; omega
set_option maxHeartbeats 800000 in
theorem row19 (a b n : Nat) (ha : a ≤ 9) (hb : b ≤ 9) (hn : n ≤ 16) (w : World) : Calls Try.prog 19 #[.int .i64 a, .int .i64 b, .int .i64 n] w fun e w' => e = .returned (.int .i64 (rsum a b n n : Nat)) ∧ w = w' := by
  have HB := Lib.hid (rsum_bd a b n ha hb hn)
  have HP := Lib.hid (fun i hi => pow9 a i ha hi)
  have HQ := Lib.hid (fun x y h => pow9b a b x y ha hb h)
  have HS := Lib.hid (fun (c i : Nat) => Nat.pow_succ (n := c) (m := i))
  go_enter Try.func19, Try.ntmps19
  go_wp2_with fail
  go_loop [7, 11] (fun sv iv => ∃ i : Nat, i ≤ n ∧ iv = .int .i64 i ∧ sv = .int .i64 (rsum a b n i : Nat)) (fun _ iv => n - (intOf iv).toNat)
  case atStart => exact ⟨0, Nat.zero_le _, rfl, rfl⟩
  case round =>
    obtain ⟨i, hi, rfl, rfl⟩ := hrel
    have b1 := HB.out i hi
    by_cases hlt : i < n
    · have HE : Hid (rsum a b n (i + 1) = rsum a b n i + a ^ (n - 1 - i) * b ^ i) := rfl
      obtain ⟨d, hd⟩ : ∃ d : Nat, n - 1 - i = d := ⟨_, rfl⟩
      have hd2 : (n : Int) - 1 - (i : Int) = (d : Int) := by omega
      rw [hd] at HE
      have hdi : d + i ≤ 16 := by omega
      clear hd
      generalize rsum a b n i = s at *
      go_wp2_with fail
      go_loop [9, 18] (fun pv jv => ∃ j : Nat, j ≤ d ∧ jv = .int .i64 j ∧ pv = .int .i64 (a ^ j : Nat)) (fun _ jv => d - (intOf jv).toNat)
      case atStart => exact ⟨0, Nat.zero_le _, rfl, rfl⟩
      case round =>
        obtain ⟨j, hj, rfl, rfl⟩ := hrel
        have c1 := HP.out j (by omega)
        by_cases hjd : j < d
        · have c2 := HP.out (j + 1) (by omega)
          rw [HS.out] at c2
          have c3 : ((a ^ j * a : Nat) : Int) ≤ 1853020188851841 := by omega
          rw [Int.natCast_mul] at c3
          have c4 : 0 ≤ ((a ^ j : Nat) : Int) * (a : Int) := Int.mul_nonneg (by omega) (by omega)
          have HF : Hid (((a ^ (j + 1) : Nat) : Int) = ((a ^ j : Nat) : Int) * (a : Int)) := by show _ = _; rw [HS.out, Int.natCast_mul]
          clear c2
          generalize a ^ j = x at *
          go_wp2_with fail
          go_round
          case rel => exact ⟨j + 1, by omega, by go_num, by rw [HF.out]⟩
          case measure => simp [intOf]; omega
        · obtain rfl : j = d := by omega
          have HA : Hid (∀ c, c ≤ i → a ^ j * b ^ c ≤ 1853020188851841) := fun c hc => HQ.out j c (by omega)
          have H0 : Hid (a ^ j * b ^ 0 = a ^ j) := by show _ = _; simp
          have HN : Hid (∀ c, ((a ^ j * b ^ (c + 1) : Nat) : Int) = ((a ^ j * b ^ c : Nat) : Int) * (b : Int)) := fun c => by
            rw [HS.out, ← Nat.mul_assoc, Int.natCast_mul]
          go_wp2_with fail
          go_loop [9, 25] (fun pv cv => ∃ c : Nat, c ≤ i ∧ cv = .int .i64 c ∧ pv = .int .i64 (a ^ j * b ^ c : Nat)) (fun _ cv => i - (intOf cv).toNat)
          case atStart => exact ⟨0, Nat.zero_le _, rfl, by rw [H0.out]; simp⟩
          case round =>
            obtain ⟨c, hc, rfl, rfl⟩ := hrel
            have d1 := HA.out c hc
            by_cases hci : c < i
            · have d2 := HA.out (c + 1) (by omega)
              have d3 : ((a ^ j * b ^ (c + 1) : Nat) : Int) ≤ 1853020188851841 := by omega
              rw [HN.out] at d3
              have d4 : 0 ≤ ((a ^ j * b ^ c : Nat) : Int) * (b : Int) := Int.mul_nonneg (by omega) (by omega)
              have HF := Lib.hid (HN.out c)
              clear d2
              generalize a ^ j * b ^ c = x at *
              go_wp2_with fail
              go_round
              case rel => exact ⟨c + 1, by omega, by go_num, by rw [HF.out]⟩
              case measure => simp [intOf]; omega
            · obtain rfl : c = i := by omega
              generalize a ^ j * b ^ c = x at *
              go_wp2_with fail
              go_round
              case rel => exact ⟨c + 1, by omega, by go_num, by rw [HE.out]; rfl⟩
              case measure => simp [intOf]; omega
    · obtain rfl : i = n := by omega
      generalize hx : rsum a b i i = x at *
      have HX := Lib.hid hx; clear hx
      go_wp2_with fail
      go_ret
      exact ⟨by rw [HX.out]; rfl, rfl⟩
/-- The fraction, in its lowest terms. -/
def lowN (x y : Nat) : Nat × Nat := (x / Nat.gcd x y, y / Nat.gcd x y)
def frv (q : Nat × Nat) : Value := .agg #[.int .i64 q.1, .int .i64 q.2]
theorem heap_kept {w w1 : World} {o : Obj} (hb : Below (w.alloc o).heap.size (w.alloc o) w1) : w1.heap[w.heap.size]? = some o := by
  rw [hb.block _ (by simp)]
  exact heap_alloc_new w o
theorem pair_cells {w1 : World} {h : Nat} {x y : Value} {t : TypeId} (hk : w1.heap[h]? = some (.cells #[x, y] t)) :
    w1.cell? ⟨h, 0, none⟩ = some x ∧ w1.cell? ⟨h, 1, none⟩ = some y ∧ w1.frozen? ⟨h, 0, none⟩ = false ∧ w1.frozen? ⟨h, 1, none⟩ = false := by
  refine ⟨by rw [cell_of_row _ _ _ _ _ _ hk]; rfl, by rw [cell_of_row _ _ _ _ _ _ hk]; rfl, frozen_of_row _ _ _ _ _ hk, frozen_of_row _ _ _ _ _ hk⟩
theorem low18 (x y : Nat) (hy : 0 < y) (bx : x ≤ 9000000000000000000) (by' : y ≤ 9000000000000000000) (w : World) : Calls Try.prog 18 #[.int .i64 x, .int .i64 y] w fun e w' => e = .returned (frv (lowN x y)) ∧ Below w.heap.size w w' := by
  have hg : 0 < Nat.gcd x y := Nat.gcd_pos_of_pos_right x hy
  have H := Lib.hid (fun w => gcd17 x y w)
  have HL : Hid (lowN x y = (x / Nat.gcd x y, y / Nat.gcd x y)) := rfl
  generalize Nat.gcd x y = g at *
  have d1 : x / g ≤ x := Nat.div_le_self _ _
  have d2 : y / g ≤ y := Nat.div_le_self _ _
  have g0 : ¬ (g : Int) = 0 := by omega
  have q1 : (x : Int) / (g : Int) = ((x / g : Nat) : Int) := rfl
  have q2 : (y : Int) / (g : Int) = ((y / g : Nat) : Int) := rfl
  generalize x / g = p at *
  generalize y / g = q at *
  go_enter Try.func18, Try.ntmps18
  go_wp2_with fail
  refine (H.out _).mono ?_
  rintro e w1 ⟨rfl, hb1⟩
  obtain ⟨c0, c1, f0, f1⟩ := pair_cells (heap_kept hb1)
  have HB := Lib.hid (((Below.refl w.heap.size w).alloc (Nat.le_refl _) _).trans (hb1.mono (by simp)))
  clear hb1
  go_wp2_with fail
  go_region
  go_wp2_with fail
  refine bodyPost_ret (v := frv (lowN x y)) (by rw [HL.out]; simp [results, Try.results18, go_sem, frv, c0, c1]) rfl ⟨rfl, ?_⟩
  exact ((HB.out.setCell (Nat.le_refl _) _).setCell (Nat.le_refl _) _).drew
end Go.Proofs.Ytkppkfbgolmonaa
