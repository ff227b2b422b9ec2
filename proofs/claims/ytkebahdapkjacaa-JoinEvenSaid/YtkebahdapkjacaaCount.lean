/- join.Count: what it answers. Condition: within its ranges. -/
import Derived.Test.YtkebahdapkjacaaPas
set_option linter.unusedSimpArgs false
set_option linter.unusedVariables false
namespace Go.Proofs.Ytkebahdapkjacaa
open Go.RowKit
theorem pas_25 (n k : Nat) (h : n ≤ 25) : pas n k ≤ 33554432 := by
  have h1 := pas_le n k
  have h2 : 2 ^ n ≤ 2 ^ 25 := Nat.pow_le_pow_right (by omega) h
  omega
theorem min4_run (a b c d : Int) (w : World) : (Builtin.min_ #[3, 3, 3, 3] 3 #[.int .i64 a, .int .i64 b, .int .i64 c, .int .i64 d]).run Try.prog w = .ok (.int .i64 (min (min (min a b) c) d)) w := by
  have h2 : ∀ (x y : Int) (w : World), (Builtin.min2 (.int .i64 x) (.int .i64 y)).run Try.prog w = .ok (.int .i64 (min x y)) w := fun x y w => by
    have e : (if y < x then y else x) = min x y := by split <;> omega
    simp [Builtin.min2, e]
  simp [Builtin.min_, List.foldlM, h2, Sem.run_bind, Result.andThen]
theorem max2_run (a b : Int) (w : World) : (Builtin.max_ #[3, 3] 3 #[.int .i64 a, .int .i64 b]).run Try.prog w = .ok (.int .i64 (max a b)) w := by
  have h2 : ∀ (x y : Int) (w : World), (Builtin.max2 (.int .i64 x) (.int .i64 y)).run Try.prog w = .ok (.int .i64 (max x y)) w := fun x y w => by
    have e : (if x < y then y else x) = max x y := by split <;> omega
    simp [Builtin.max2, e]
  simp [Builtin.max_, List.foldlM, h2, Sem.run_bind, Result.andThen]
set_option maxHeartbeats 800000 in
theorem count_ok (n m k i : Nat) (w : World) (hn : n ≤ 25) (hm : m ≤ 25) (hk : k ≤ 50) (hi : i ≤ k) :
    Calls Try.prog 10 #[.int .i64 n, .int .i64 m, .int .i64 k, .int .i64 i] w fun e w' => e = .returned (.tuple #[.int .i64 (pas n i * pas m (k - i) : Nat), .int .i64 0]) ∧ Below w.heap.size w w' := by
  have HA := Lib.hid (Of_any n i (by omega))
  have HB := Lib.hid (Of_any m (k - i) (by omega))
  rw [of_pas n i (by omega)] at HA
  rw [of_pas m (k - i) (by omega), Int.natCast_sub hi] at HB
  have h1 := pas_25 n i hn
  have h2 := pas_25 m (k - i) hm
  generalize pas n i = x at *
  generalize pas m (k - i) = y at *
  obtain ⟨p, hp⟩ : ∃ p, x * y = p := ⟨_, rfl⟩
  have hpp : (x : Int) * (y : Int) = (p : Int) := by rw [← hp]; simp
  have hpb : p ≤ 33554432 * 33554432 := by rw [← hp]; exact Nat.mul_le_mul h1 h2
  rw [hp]
  clear hp
  have f2 : decide ((k : Int) < (i : Int)) = false := decide_eq_false (by omega)
  have f3 : decide (k < i) = false := decide_eq_false (by omega)
  have f5 : decide ((n : Int) < 0) = false := decide_eq_false (by omega)
  obtain ⟨q, hq⟩ : ∃ q : Nat, min (min (min (n : Int) (m : Int)) (k : Int)) (i : Int) = q := ⟨(min (min (min n m) k) i), by omega⟩
  have hmn := min4_run n m k i
  rw [hq] at hmn
  obtain ⟨z, hz⟩ : ∃ z : Nat, max (n : Int) (m : Int) = z := ⟨max n m, by omega⟩
  have hz25 : z ≤ 25 := by omega
  have hmx := max2_run n m
  rw [hz] at hmx
  have f1 : decide (25 < (z : Int)) = false := decide_eq_false (by omega)
  have f4 : decide ((q : Int) < 0) = false := decide_eq_false (by omega)
  clear hq hz
  go_enter Try.func10, Try.ntmps10
  go_wp2_with fail
  refine (HA.out _).mono ?_
  rintro e w1 ⟨rfl, hb1⟩
  have H1 := Lib.hid hb1
  clear hb1
  go_wp2_with fail
  refine (HB.out _).mono ?_
  rintro e w2 ⟨rfl, hb2⟩
  have H2 := Lib.hid (H1.out.trans (hb2.mono H1.out.size))
  clear hb2
  go_wp2_with fail
  go_ret2
  exact ⟨rfl, H2.out⟩
end Go.Proofs.Ytkebahdapkjacaa
