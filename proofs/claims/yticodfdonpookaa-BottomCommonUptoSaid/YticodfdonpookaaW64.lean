/- Words of 64 bits as BitVec: the walk's integer operations at 'U x' are those of BitVec. No condition. -/
import Derived.Test.YticodfdonpookaaGen
import Derived.WalkKit
import Derived.ProofKit
import Derived.OpenShut
import Derived.WalkSpells
import Derived.WalkLawsBesides
import Derived.Laws.Bits64
import Derived.Laws.Bits64b
namespace Go.Proofs.Yticodfdonpookaa
open Go.RowKit

def U (x : BitVec 64) : Int := (x.toNat : Int)

theorem U_lo (x : BitVec 64) : 0 ≤ U x := by unfold U; omega
theorem U_hi (x : BitVec 64) : U x < 18446744073709551616 := by unfold U; have := x.isLt; omega
theorem U_inj {x y : BitVec 64} : U x = U y ↔ x = y := by
  unfold U; constructor
  · intro h; apply BitVec.eq_of_toNat_eq; omega
  · intro h; rw [h]
theorem U_of {a : Int} (h : (Lit.int .u64 a).wf = true) : ∃ x, a = U x := by
  have h3 := bounds_u64 h
  refine ⟨BitVec.ofNat 64 a.toNat, ?_⟩
  unfold U; rw [BitVec.toNat_ofNat, Nat.mod_eq_of_lt (by omega)]; omega
theorem U_wf (x : BitVec 64) : (Lit.int .u64 (U x)).wf = true := by
  have := U_lo x; have := U_hi x
  exact WalkArith.wf_u64 (by omega)

theorem xor_U (x y : BitVec 64) : bits .xor .u64 (U x) (U y) = U (x ^^^ y) := by
  unfold U; rw [bits_xor_u64_nat _ _ x.isLt y.isLt, BitVec.toNat_xor]
theorem and_U (x y : BitVec 64) : bits .and .u64 (U x) (U y) = U (x &&& y) := by
  unfold U; rw [bits_and_u64_nat _ _ x.isLt y.isLt, BitVec.toNat_and]
theorem or_U (x y : BitVec 64) : bits .or .u64 (U x) (U y) = U (x ||| y) := by
  unfold U; rw [bits_or_u64_nat _ _ x.isLt y.isLt, BitVec.toNat_or]
theorem mul_U (x : BitVec 64) (n : Nat) : IntKind.u64.wrap (U x * (n : Int)) = U (x * BitVec.ofNat 64 n) := by
  unfold U; rw [IntKind.wrap_u64, BitVec.toNat_mul, BitVec.toNat_ofNat, Nat.mul_mod_mod]; omega
theorem add_U (x : BitVec 64) (n : Nat) : IntKind.u64.wrap (U x + (n : Int)) = U (x + BitVec.ofNat 64 n) := by
  unfold U; rw [IntKind.wrap_u64, BitVec.toNat_add, BitVec.toNat_ofNat, Nat.add_mod_mod]; omega
theorem div_U (x : BitVec 64) (k : Nat) : U x / ((2 ^ k : Nat) : Int) = U (x >>> k) := by
  unfold U; rw [BitVec.toNat_ushiftRight, Nat.shiftRight_eq_div_pow]; omega
end Go.Proofs.Yticodfdonpookaa
