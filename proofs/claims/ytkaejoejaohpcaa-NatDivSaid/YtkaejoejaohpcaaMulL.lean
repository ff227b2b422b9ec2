/- Mul's plain law. No condition. -/
import Derived.Test.YtkaejoejaohpcaaA64
namespace Go.Proofs.Ytkaejoejaohpcaa
theorem val_set : ∀ (o : List Nat) (k s : Nat), k < o.length → val (o.set k s) + 18446744073709551616 ^ k * o.getD k 0 = val o + 18446744073709551616 ^ k * s
  | [], k, s, h => by simp at h
  | x :: o, 0, s, _ => by simp [val]; omega
  | x :: o, k + 1, s, h => by
    have ih := val_set o k s (by simpa using h)
    show x + 18446744073709551616 * val (o.set k s) + 18446744073709551616 ^ (k + 1) * o.getD k 0 = x + 18446744073709551616 * val o + 18446744073709551616 ^ (k + 1) * s
    rw [Nat.pow_succ]
    generalize 18446744073709551616 ^ k = p at *
    generalize val (o.set k s) = v at *
    generalize val o = v' at *
    generalize o.getD k 0 = d at *
    grind
theorem mul_bd {x y q : Nat} (hx : x < 18446744073709551616) (hy : y < 18446744073709551616) (h : x * y = q) : q ≤ 340282366920938463426481119284349108225 := by
  have := Nat.mul_le_mul (show x ≤ 18446744073709551615 by omega) (show y ≤ 18446744073709551615 by omega)
  omega
/-- One word of a row. -/
theorem mul_word {q old cy hi lo l2 c s c2 : Nat} (hq : q ≤ 340282366920938463426481119284349108225) (ho : old < 18446744073709551616) (hc : cy < 18446744073709551616)
    (h1 : lo + 18446744073709551616 * hi = q) (h2 : l2 + 18446744073709551616 * c = lo + cy) (h3 : s + 18446744073709551616 * c2 = old + l2) :
    hi + c < 18446744073709551616 ∧ hi + c + c2 < 18446744073709551616 ∧ s + 18446744073709551616 * (hi + c + c2) = old + q + cy := by omega
theorem mul_stepB {B o o' v0 x vt p pj s cy cy' old y : Nat} (hset : o' + p * pj * old = o + p * pj * s) (hinv : o + p * pj * cy = v0 + p * (x * vt)) (hw : s + B * cy' = old + x * y + cy) :
    o' + p * (pj * B) * cy' = v0 + p * (x * (vt + pj * y)) := by
  have e : p * pj * (s + B * cy') = p * pj * (old + x * y + cy) := by rw [hw]
  grind
end Go.Proofs.Ytkaejoejaohpcaa
