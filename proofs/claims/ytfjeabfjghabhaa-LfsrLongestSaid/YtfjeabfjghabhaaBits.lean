/- Words of 32 bits: what the walk's operations come to; bits.OnesCount32. No condition. -/
import Derived.Test.YtfjeabfjghabhaaBl
import Derived.Lib.BitFns
import Derived.Lib.Walk
import Derived.Lib.Small
import Derived.Lib.Slices
import Derived.Lib.Strings
import Derived.Below
import Derived.WalkKit
import Derived.BigQuiet
import Derived.BigRegion
import Derived.Deep.QuietTactic
set_option linter.unusedSimpArgs false
set_option linter.unusedVariables false
namespace Go.Proofs.Ytfjeabfjghabhaa
open Go.RowKit
theorem ofN (a : Nat) (ha : a < 4294967296) : (BitVec.ofInt 32 (a : Int)).toNat = a := by
  rw [BitVec.ofInt_natCast, BitVec.toNat_ofNat]; exact Nat.mod_eq_of_lt (by omega)
theorem and32 (a b : Nat) (ha : a < 4294967296) (hb : b < 4294967296) : bits .and .u32 (a : Int) (b : Int) = ((a &&& b : Nat) : Int) := by
  have hx : a &&& b < 2 ^ 32 := Nat.and_lt_two_pow _ (by omega)
  show IntKind.u32.wrap ((BitVec.ofInt 32 (a : Int) &&& BitVec.ofInt 32 (b : Int)).toNat : Int) = _
  rw [BitVec.toNat_and, ofN a ha, ofN b hb, IntKind.wrap_u32]
  omega
theorem or32 (a b : Nat) (ha : a < 4294967296) (hb : b < 4294967296) : bits .or .u32 (a : Int) (b : Int) = ((a ||| b : Nat) : Int) := by
  have hx : a ||| b < 2 ^ 32 := Nat.or_lt_two_pow (by omega) (by omega)
  show IntKind.u32.wrap ((BitVec.ofInt 32 (a : Int) ||| BitVec.ofInt 32 (b : Int)).toNat : Int) = _
  rw [BitVec.toNat_or, ofN a ha, ofN b hb, IntKind.wrap_u32]
  omega
theorem xor32 (a b : Nat) (ha : a < 4294967296) (hb : b < 4294967296) : bits .xor .u32 (a : Int) (b : Int) = ((a ^^^ b : Nat) : Int) := by
  have hx : a ^^^ b < 2 ^ 32 := Nat.xor_lt_two_pow (by omega) (by omega)
  show IntKind.u32.wrap ((BitVec.ofInt 32 (a : Int) ^^^ BitVec.ofInt 32 (b : Int)).toNat : Int) = _
  rw [BitVec.toNat_xor, ofN a ha, ofN b hb, IntKind.wrap_u32]
  omega
/-- How many of the lowest k bits are set. -/
def pop : Nat → Nat → Nat
  | 0, _ => 0
  | k + 1, x => x % 2 + pop k (x / 2)
theorem pop_le : ∀ (k x : Nat), pop k x ≤ k
  | 0, _ => Nat.le_refl _
  | k + 1, x => by have := pop_le k (x / 2); rw [pop]; omega
theorem pop_add : ∀ (j k x : Nat), pop (j + k) x = pop j x + pop k (x / 2 ^ j)
  | 0, k, x => by simp [pop]
  | j + 1, k, x => by
    rw [show j + 1 + k = (j + k) + 1 by omega, pop, pop, pop_add j k (x / 2), Nat.div_div_eq_div_mul, Nat.pow_succ, Nat.mul_comm 2]
    omega
theorem pop_mod : ∀ (k x : Nat), pop k (x % 2 ^ k) = pop k x
  | 0, x => rfl
  | k + 1, x => by
    rw [pop, pop, Nat.pow_succ]
    have h1 : x % (2 ^ k * 2) % 2 = x % 2 := Nat.mod_mod_of_dvd _ (Nat.dvd_mul_left _ _)
    have h2 : x % (2 ^ k * 2) / 2 = x / 2 % 2 ^ k := by
      rw [Nat.mul_comm, Nat.mod_mul_right_div_self]
    rw [h1, h2, pop_mod k]
theorem pop8_tab : ∀ n : Fin 256, Lib.pop8 (n.val : Int) = (pop 8 n.val : Int) := by decide +kernel
theorem pop8_is (x : Nat) (h : x < 256) : Lib.pop8 (x : Int) = (pop 8 x : Int) := pop8_tab ⟨x, h⟩
theorem pop32_is (x : Nat) (h : x < 4294967296) : pop 32 x = pop 8 (x % 256) + pop 8 (x / 256 % 256) + pop 8 (x / 65536 % 256) + pop 8 (x / 16777216) := by
  rw [pop_mod 8 x, pop_mod 8 (x / 256), pop_mod 8 (x / 65536), show (32 : Nat) = 8 + (8 + (8 + 8)) from rfl, pop_add 8, pop_add 8, pop_add 8]
  simp only [Nat.div_div_eq_div_mul, show 2 ^ 8 = 256 from rfl, show 256 * 256 = 65536 from rfl, show 65536 * 256 = 16777216 from rfl]
  omega
set_option maxHeartbeats 400000 in
theorem ones32 (x : Nat) (hx : x < 4294967296) (w : World) : Calls Try.prog 16 #[.int .u32 x] w fun e w' => e = .returned (.int .i64 (pop 32 x : Nat)) ∧ ∃ q, w' = w.drewN q := by
  have b1 : bits .and .u32 ((x : Int) / 65536) 255 = (x : Int) / 65536 % 256 := by
    have := and32 (x / 65536) 255 (by omega) (by omega)
    rw [show (255 : Nat) = 2 ^ 8 - 1 from rfl, Nat.and_two_pow_sub_one_eq_mod] at this
    exact this
  have b2 : bits .and .u32 ((x : Int) / 256) 255 = (x : Int) / 256 % 256 := by
    have := and32 (x / 256) 255 (by omega) (by omega)
    rw [show (255 : Nat) = 2 ^ 8 - 1 from rfl, Nat.and_two_pow_sub_one_eq_mod] at this
    exact this
  have b3 : bits .and .u32 (x : Int) 255 = (x : Int) % 256 := by
    have := and32 x 255 (by omega) (by omega)
    rw [show (255 : Nat) = 2 ^ 8 - 1 from rfl, Nat.and_two_pow_sub_one_eq_mod] at this
    exact this
  have i0 : (0 : Int) ≤ (x : Int) / 16777216 := by omega
  have i1 : (x : Int) / 16777216 ≤ 255 := by omega
  go_enter Try.func16, Try.ntmps16
  go_wp2_with fail
  go_quiet (fail)
  go_wp2_with fail
  go_ret
  refine ⟨congrArg (fun z => Ending.returned (Value.int .i64 z)) (?_ : _ = (pop 32 x : Int)), nq, rfl⟩
  have e0 := pop8_is (x / 16777216) (by omega)
  have e1 := pop8_is (x / 65536 % 256) (by omega)
  have e2 := pop8_is (x / 256 % 256) (by omega)
  have e3 := pop8_is (x % 256) (by omega)
  have l0 := pop_le 8 (x / 16777216)
  have l1 := pop_le 8 (x / 65536 % 256)
  have l2 := pop_le 8 (x / 256 % 256)
  have l3 := pop_le 8 (x % 256)
  have c0 : Lib.pop8 ((x : Int) / 16777216) = (pop 8 (x / 16777216) : Int) := e0
  have c1 : Lib.pop8 ((x : Int) / 65536 % 256) = (pop 8 (x / 65536 % 256) : Int) := e1
  have c2 : Lib.pop8 ((x : Int) / 256 % 256) = (pop 8 (x / 256 % 256) : Int) := e2
  have c3 : Lib.pop8 ((x : Int) % 256) = (pop 8 (x % 256) : Int) := e3
  rw [pop32_is x hx, c0, c1, c2, c3]
  omega
end Go.Proofs.Ytfjeabfjghabhaa
