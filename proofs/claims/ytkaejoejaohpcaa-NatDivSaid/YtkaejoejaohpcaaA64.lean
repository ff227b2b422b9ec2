/- math/bits.Add64: what it answers. Condition: a carry of 0 or 1. -/
import Derived.Test.YtkaejoejaohpcaaNums
import Derived.Laws.Externs
namespace Go.Proofs.Ytkaejoejaohpcaa
open Go.RowKit
theorem add64 (x y c : Nat) (hc : c ≤ 1) (w : World) : (callFunc 17 #[.int .u64 x, .int .u64 y, .int .u64 c]).run Try.prog w =
    .ok (.value (.tuple #[.int .u64 (((x + y + c) % 18446744073709551616 : Nat) : Int), .int .u64 (((x + y + c) / 18446744073709551616 : Nat) : Int)])) w := by
  rw [run_callFunc_extern Try.func17 (by kernel_rfl) (by kernel_rfl) (by kernel_rfl) (e := add64Entry) (by kernel_rfl), run_add64 x y c (by omega) (by omega) (by omega) (by omega)]
  simp only [Result.andThen]
  congr 5 <;> omega
/-- One word more. -/
theorem val_take (l : List Nat) (i : Nat) : val (l.take (i + 1)) = val (l.take i) + 18446744073709551616 ^ i * l.getD i 0 := by
  by_cases h : i < l.length
  · rw [take_last l i h, val_app, List.length_take, Nat.min_eq_left (by omega)]
    simp [val]
  · rw [List.take_of_length_le (by omega), List.take_of_length_le (by omega), List.getD_eq_getElem?_getD, List.getElem?_eq_none (by omega)]
    simp
theorem add_step (V va vb c x y s c2 p : Nat) (h : V + p * c = va + vb) (hs : s + 18446744073709551616 * c2 = x + y + c) :
    (V + p * s) + p * 18446744073709551616 * c2 = (va + p * x) + (vb + p * y) := by
  have e1 : p * (s + 18446744073709551616 * c2) = p * (x + y + c) := by rw [hs]
  grind
theorem add_endB {B N c V va vb : Nat} (hB : 2 ≤ B) (h : V + B ^ (N + 1) * c = va + vb) (ha : va < B ^ N) (hb : vb < B ^ N) : V = va + vb := by
  rw [Nat.pow_succ] at h
  generalize B ^ N = p at *
  rcases Nat.eq_zero_or_pos c with h0 | h0
  · rw [h0, Nat.mul_zero, Nat.add_zero] at h; exact h
  · have h1 : p * B * 1 ≤ p * B * c := Nat.mul_le_mul (Nat.le_refl _) h0
    have h2 : p * 2 ≤ p * B := Nat.mul_le_mul (Nat.le_refl _) hB
    rw [Nat.mul_one] at h1
    generalize p * B * c = q at *
    omega
theorem add_end {N c V va vb : Nat} (h : V + 18446744073709551616 ^ (N + 1) * c = va + vb) (ha : va < 18446744073709551616 ^ N) (hb : vb < 18446744073709551616 ^ N) : V = va + vb :=
  add_endB (by decide) h ha hb
theorem wd_app {l : List Nat} {x : Nat} (h : Wd l) (hx : x < 18446744073709551616) : Wd (l ++ [x]) := fun y hy => by
  rcases List.mem_append.1 hy with hy | hy
  · exact h y hy
  · simp at hy; omega
end Go.Proofs.Ytkaejoejaohpcaa
