/- Mul's plain law. No condition. -/
import Derived.Test.YtidnmdfpnmahpaaBigNums
namespace Go.Proofs.Ytidnmdfpnmahpaa.Big
theorem val_set : ∀ (o : List Nat) (k s : Nat), k < o.length → val (o.set k s) + 4294967296 ^ k * o.getD k 0 = val o + 4294967296 ^ k * s
  | [], k, s, h => by simp at h
  | x :: o, 0, s, _ => by simp [val]; omega
  | x :: o, k + 1, s, h => by
    have ih := val_set o k s (by simpa using h)
    show x + 4294967296 * val (o.set k s) + 4294967296 ^ (k + 1) * o.getD k 0 = x + 4294967296 * val o + 4294967296 ^ (k + 1) * s
    rw [Nat.pow_succ]
    generalize 4294967296 ^ k = p at *
    generalize val (o.set k s) = v at *
    generalize val o = v' at *
    generalize o.getD k 0 = d at *
    grind
theorem mul_bd {x y q : Nat} (hx : x < 4294967296) (hy : y < 4294967296) (h : x * y = q) : q ≤ 18446744065119617025 := by
  have := Nat.mul_le_mul (show x ≤ 4294967295 by omega) (show y ≤ 4294967295 by omega)
  omega
/-- One word of a row. -/
theorem mul_word {q old cy hi lo l2 c s c2 : Nat} (hq : q ≤ 18446744065119617025) (ho : old < 4294967296) (hc : cy < 4294967296)
    (h1 : lo + 4294967296 * hi = q) (h2 : l2 + 4294967296 * c = lo + cy) (h3 : s + 4294967296 * c2 = old + l2) :
    hi + c < 4294967296 ∧ hi + c + c2 < 4294967296 ∧ s + 4294967296 * (hi + c + c2) = old + q + cy := by omega
theorem mul_stepB {B o o' v0 x vt p pj s cy cy' old y : Nat} (hset : o' + p * pj * old = o + p * pj * s) (hinv : o + p * pj * cy = v0 + p * (x * vt)) (hw : s + B * cy' = old + x * y + cy) :
    o' + p * (pj * B) * cy' = v0 + p * (x * (vt + pj * y)) := by
  have e : p * pj * (s + B * cy') = p * pj * (old + x * y + cy) := by rw [hw]
  grind
end Go.Proofs.Ytidnmdfpnmahpaa.Big
