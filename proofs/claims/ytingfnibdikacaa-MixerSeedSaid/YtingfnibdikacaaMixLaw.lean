/- The mix of a word is injective. No condition. -/
import Derived.Test.YtingfnibdikacaaSeed
set_option linter.unusedSimpArgs false
set_option linter.unusedVariables false
namespace Go.Proofs.Ytingfnibdikacaa
theorem shr_fix {z : BitVec 64} {k : Nat} (hk : 0 < k) (h : z = z >>> k) : z = 0#64 := by
  have e : z.toNat = z.toNat / 2 ^ k := by
    have := congrArg BitVec.toNat h
    rw [BitVec.toNat_ushiftRight, Nat.shiftRight_eq_div_pow] at this
    exact this
  apply BitVec.eq_of_toNat_eq
  rcases Nat.eq_zero_or_pos z.toNat with h0 | h0
  · simpa using h0
  · have := Nat.div_lt_self h0 (Nat.one_lt_two_pow (by omega : k ≠ 0))
    omega
theorem xs_inj {x y : BitVec 64} {k : Nat} (hk : 0 < k) (h : x ^^^ x >>> k = y ^^^ y >>> k) : x = y := by
  have e : x ^^^ y = (x ^^^ y) >>> k := by
    rw [BitVec.ushiftRight_xor_distrib]
    have h2 := congrArg (fun t => t ^^^ y ^^^ x >>> k) h
    have a1 : x ^^^ x >>> k ^^^ y ^^^ x >>> k = x ^^^ y := by
      rw [BitVec.xor_assoc x, BitVec.xor_comm (x >>> k) y, ← BitVec.xor_assoc, BitVec.xor_assoc, BitVec.xor_self, BitVec.xor_zero]
    have a2 : y ^^^ y >>> k ^^^ y ^^^ x >>> k = x >>> k ^^^ y >>> k := by
      rw [BitVec.xor_comm y (y >>> k), BitVec.xor_assoc (y >>> k) y y, BitVec.xor_self, BitVec.xor_zero, BitVec.xor_comm]
    rw [a1, a2] at h2
    exact h2
  have z := shr_fix hk e
  have := congrArg (fun t => t ^^^ y) z
  simpa [BitVec.xor_assoc] using this
theorem mul_inj {x y c d : BitVec 64} (hc : c * d = 1#64) (h : x * c = y * c) : x = y := by
  have := congrArg (fun t => t * d) h
  simpa [BitVec.mul_assoc, hc] using this
theorem mix_inj {x y : BitVec 64} (h : mix x = mix y) : x = y := by
  unfold mix at h
  have h1 := xs_inj (by decide) h
  have h2 := mul_inj (d := 3573116690164977347#64) (by decide +kernel) h1
  have h3 := xs_inj (by decide) h2
  have h4 := mul_inj (d := 10871156337175269513#64) (by decide +kernel) h3
  exact xs_inj (by decide) h4
theorem add_inj {x y c : BitVec 64} (h : x + c = y + c) : x = y := by
  have := congrArg (fun t => t - c) h
  simpa using this
theorem seed_ne {x y : BitVec 64} (h : x ≠ y) : (U (mix (x + 11400714819323198485#64)) == U (mix (y + 11400714819323198485#64))) = false := by
  rw [beq_eq_false_iff_ne]
  intro e
  exact h (add_inj (mix_inj (U_inj.1 e)))
theorem seed_nz (x : BitVec 64) : (U (mix (x + 11400714819323198485#64)) == 0 && U (mix (x + 11400714819323198485#64 + 11400714819323198485#64)) == 0) = false := by
  rw [← Bool.not_eq_true]
  intro e
  simp only [Bool.and_eq_true, beq_iff_eq] at e
  have := mix_inj (U_inj.1 (e.1.trans e.2.symm))
  have h2 := add_inj this
  have h3 := congrArg BitVec.toNat h2
  rw [BitVec.toNat_add] at h3
  have := x.isLt
  simp at h3
  omega
end Go.Proofs.Ytingfnibdikacaa
