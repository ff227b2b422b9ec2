/- Sums over all tapes of one length, the greatest bit first. No condition. -/
import Derived.Test.YtkdidgkanfjfmaaBits
set_option linter.unusedSimpArgs false
set_option linter.unusedVariables false
namespace Go.Proofs.Ytkdidgkanfjfmaa
/-- The bits of x, n of them. -/
def tp (n x : Nat) : List Bool := tabB n (bitf x n)
theorem tp_len (n x : Nat) : (tp n x).length = n := tabB_len _ _
/-- The sum over all below k. -/
def tot (g : Nat → Nat) : Nat → Nat
  | 0 => 0
  | k + 1 => tot g k + g k
theorem tot_congr {f g : Nat → Nat} : ∀ {k : Nat}, (∀ i, i < k → f i = g i) → tot f k = tot g k
  | 0, _ => rfl
  | k + 1, h => by rw [tot, tot, tot_congr (fun i hi => h i (by omega)), h k (by omega)]
theorem tot_add (g : Nat → Nat) (a : Nat) : ∀ b, tot g (a + b) = tot g a + tot (fun i => g (a + i)) b
  | 0 => rfl
  | b + 1 => by rw [← Nat.add_assoc, tot, tot, tot_add g a b]; omega
theorem tot_const (c : Nat) : ∀ k, tot (fun _ => c) k = k * c
  | 0 => by simp [tot]
  | k + 1 => by rw [tot, tot_const c k, Nat.add_mul, Nat.one_mul]
theorem tot_plus (f g : Nat → Nat) : ∀ k, tot (fun i => f i + g i) k = tot f k + tot g k
  | 0 => rfl
  | k + 1 => by rw [tot, tot, tot, tot_plus f g k]; omega
theorem tot_le {f : Nat → Nat} {c : Nat} : ∀ {k : Nat}, (∀ i, i < k → f i ≤ c) → tot f k ≤ k * c
  | 0, _ => Nat.zero_le _
  | k + 1, h => by
    have h1 := tot_le (k := k) (fun i hi => h i (by omega))
    have h2 := h k (by omega)
    rw [tot, Nat.add_mul, Nat.one_mul]; omega
theorem tot_mono (f : Nat → Nat) {a b : Nat} (h : a ≤ b) : tot f a ≤ tot f b := by
  obtain ⟨c, rfl⟩ : ∃ c, b = a + c := ⟨b - a, by omega⟩
  rw [tot_add]; omega
theorem tp_zero (x : Nat) : tp 0 x = [] := rfl
theorem tabB_cons (n : Nat) (f : Nat → Bool) : tabB (n + 1) f = f 0 :: tabB n (fun i => f (i + 1)) := by
  unfold tabB; rw [List.range_succ_eq_map, List.map_cons, List.map_map]; rfl
theorem tp_low (n x : Nat) (h : x < 2 ^ n) : tp (n + 1) x = false :: tp n x := by
  unfold tp
  rw [tabB_cons]
  have h0 : bitf x (n + 1) 0 = false := by
    unfold bitf; rw [show n + 1 - 1 - 0 = n by omega, Nat.div_eq_of_lt h]; rfl
  rw [h0]
  congr 1
  refine tabB_congr fun i hi => ?_
  unfold bitf
  rw [show n + 1 - 1 - (i + 1) = n - 1 - i by omega]
theorem tp_high (n x : Nat) (h : x < 2 ^ n) : tp (n + 1) (2 ^ n + x) = true :: tp n x := by
  unfold tp
  rw [tabB_cons]
  have hp : 0 < 2 ^ n := Nat.two_pow_pos n
  have h0 : bitf (2 ^ n + x) (n + 1) 0 = true := by
    unfold bitf; rw [show n + 1 - 1 - 0 = n by omega, Nat.add_div_left _ hp, Nat.div_eq_of_lt h]; rfl
  rw [h0]
  congr 1
  refine tabB_congr fun i hi => ?_
  unfold bitf
  rw [show n + 1 - 1 - (i + 1) = n - 1 - i by omega]
  have e : 2 ^ n = 2 ^ (n - 1 - i) * (2 * 2 ^ i) := by
    rw [← Nat.mul_assoc, Nat.mul_comm _ 2, Nat.mul_assoc, ← Nat.pow_add, show n - 1 - i + i = n - 1 by omega, ← Nat.pow_succ']
    congr 1; omega
  rw [e, Nat.mul_add_div (Nat.two_pow_pos _)]
  congr 2
  rw [Nat.mul_add_mod]
/-- ALL TAPES OF ONE BIT MORE: those with a nought ahead, and those with a one. -/
theorem tot_tapes (f : List Bool → Nat) (n : Nat) : tot (fun x => f (tp (n + 1) x)) (2 ^ (n + 1)) = tot (fun x => f (false :: tp n x)) (2 ^ n) + tot (fun x => f (true :: tp n x)) (2 ^ n) := by
  rw [Nat.pow_succ, Nat.mul_two, tot_add]
  rw [tot_congr (fun i hi => by rw [tp_low n i hi]), tot_congr (f := fun i => f (tp (n + 1) (2 ^ n + i))) (fun i hi => by rw [tp_high n i hi])]
end Go.Proofs.Ytkdidgkanfjfmaa
