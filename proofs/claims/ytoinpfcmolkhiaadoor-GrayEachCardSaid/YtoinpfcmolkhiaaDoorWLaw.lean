/- Gray codes: plain laws. No condition. -/
import Derived.Test.YtoinpfcmolkhiaaDoorWords
set_option linter.unusedSimpArgs false
set_option linter.unusedVariables false
namespace Go.Proofs.YtoinpfcmolkhiaaDoor
open Go.RowKit
theorem sh_at (k : Nat) (x : BitVec 64) (i : Nat) : (sh k x).getLsbD i = (x.getLsbD i ^^ x.getLsbD (k + i)) := by
  unfold sh; rw [BitVec.getLsbD_xor, BitVec.getLsbD_ushiftRight]
theorem sh_twice (k : Nat) (x : BitVec 64) : sh k (sh k x) = sh (k + k) x := by
  apply BitVec.eq_of_getLsbD_eq
  intro i _
  rw [sh_at, sh_at, sh_at, sh_at, Nat.add_assoc]
  cases x.getLsbD i <;> cases x.getLsbD (k + i) <;> simp
theorem sh_comm (k j : Nat) (x : BitVec 64) : sh k (sh j x) = sh j (sh k x) := by
  apply BitVec.eq_of_getLsbD_eq
  intro i _
  rw [sh_at, sh_at, sh_at, sh_at, sh_at, sh_at, show j + (k + i) = k + (j + i) by omega]
  cases x.getLsbD i <;> cases x.getLsbD (k + i) <;> cases x.getLsbD (j + i) <;> simp
theorem sh_xor (k : Nat) (x y : BitVec 64) : sh k (x ^^^ y) = sh k x ^^^ sh k y := by
  apply BitVec.eq_of_getLsbD_eq
  intro i _
  rw [sh_at, BitVec.getLsbD_xor, BitVec.getLsbD_xor, BitVec.getLsbD_xor, sh_at, sh_at]
  cases x.getLsbD i <;> cases y.getLsbD i <;> cases x.getLsbD (k + i) <;> cases y.getLsbD (k + i) <;> rfl
theorem sh_all (x : BitVec 64) : sh 64 x = x := by
  apply BitVec.eq_of_getLsbD_eq
  intro i _
  rw [sh_at, BitVec.getLsbD_of_ge x (64 + i) (by omega)]
  simp
theorem place_eq (x : BitVec 64) : place x = sh 32 (sh 16 (sh 8 (sh 4 (sh 2 (sh 1 x))))) := rfl
theorem place_code (x : BitVec 64) : place (code x) = x := by
  rw [place_eq, code, sh_twice, sh_twice, sh_twice, sh_twice, sh_twice, sh_twice, sh_all]
theorem code_place (x : BitVec 64) : code (place x) = x := by
  rw [place_eq, code, sh_comm 1 32, sh_comm 1 16, sh_comm 1 8, sh_comm 1 4, sh_comm 1 2, sh_twice, sh_twice, sh_twice, sh_twice, sh_twice, sh_twice, sh_all]
theorem code_inj {x y : BitVec 64} : code x = code y ↔ x = y :=
  ⟨fun h => by rw [← place_code x, h, place_code], fun h => by rw [h]⟩
theorem code_xor (x y : BitVec 64) : code (x ^^^ y) = code x ^^^ code y := sh_xor 1 x y
theorem place_xor (x y : BitVec 64) : place (x ^^^ y) = place x ^^^ place y := by
  simp only [place_eq, sh_xor]
theorem ones_pow : ∀ t : Fin 64, bits .and .i64 (wrap64 (U (pcw (1#64 <<< t.val)))) 127 = 1 := by decide +kernel
theorem code_step : ∀ t : Fin 64, code (BitVec.ofNat 64 (2 ^ (t.val + 1) - 1)) = 1#64 <<< t.val := by decide +kernel
theorem xor_next (t m : Nat) : (2 ^ t * (2 * m + 1) - 1) ^^^ (2 ^ t * (2 * m + 1)) = 2 ^ (t + 1) - 1 := by
  have h0 : 0 < 2 ^ t := Nat.two_pow_pos t
  have e1 : 2 ^ t * (2 * m + 1) - 1 = 2 ^ t * (2 * m) + (2 ^ t - 1) := by
    rw [Nat.mul_add, Nat.mul_one]; omega
  apply Nat.eq_of_testBit_eq
  intro i
  rw [Nat.testBit_xor, e1, Nat.testBit_two_pow_mul_add _ (by omega), show 2 ^ t * (2 * m + 1) = 2 ^ t * (2 * m + 1) + 0 from rfl, Nat.testBit_two_pow_mul_add _ h0, Nat.testBit_two_pow_sub_one, Nat.testBit_two_pow_sub_one]
  by_cases h : i < t
  · rw [if_pos h, if_pos h]
    simp [h]; omega
  · rw [if_neg h, if_neg h]
    by_cases h2 : i = t
    · subst h2
      simp [Nat.testBit_zero]
    · obtain ⟨j, hj⟩ : ∃ j, i - t = j + 1 := ⟨i - t - 1, by omega⟩
      rw [hj, Nat.testBit_succ, Nat.testBit_succ]
      have e2 : 2 * m / 2 = m := by omega
      have e3 : (2 * m + 1) / 2 = m := by omega
      rw [e2, e3]
      simp; omega
/-- Codes of neighbours differ in the bit that Flip tells. -/
theorem code_next (x : BitVec 64) (hx : x.toNat < 18446744073709551615) :
    code x ^^^ code (x + 1#64) = 1#64 <<< (Lib.ctz 64 (x.toNat + 1)) ∧ Lib.ctz 64 (x.toNat + 1) < 64 := by
  obtain ⟨m, hm, ht⟩ := Lib.ctzFrom_spec 64 (x.toNat + 1) (by omega) (by omega)
  have hc : Lib.ctz 64 (x.toNat + 1) = Lib.ctzFrom 64 (x.toNat + 1) := by unfold Lib.ctz; rw [if_neg (by omega)]
  rw [hc]
  generalize Lib.ctzFrom 64 (x.toNat + 1) = t at *
  refine ⟨?_, ht⟩
  rw [← code_xor, ← code_step ⟨t, ht⟩]
  congr 1
  apply BitVec.eq_of_toNat_eq
  have hp : 2 ^ (t + 1) ≤ 2 ^ 64 := Nat.pow_le_pow_right (by decide) (by omega)
  have h0 : 0 < 2 ^ (t + 1) := Nat.two_pow_pos _
  show _ = (BitVec.ofNat 64 (2 ^ (t + 1) - 1)).toNat
  have e9 : (BitVec.ofNat 64 (2 ^ (t + 1) - 1)).toNat = 2 ^ (t + 1) - 1 := by rw [BitVec.toNat_ofNat]; exact Nat.mod_eq_of_lt (by omega)
  have e8 : (x + 1#64).toNat = x.toNat + 1 := by rw [BitVec.toNat_add, show (1#64).toNat = 1 from rfl]; exact Nat.mod_eq_of_lt (by omega)
  rw [BitVec.toNat_xor, e9, e8]
  have h2 := xor_next t m
  rw [← hm] at h2
  rw [show x.toNat + 1 - 1 = x.toNat by omega] at h2
  exact h2
end Go.Proofs.YtoinpfcmolkhiaaDoor
