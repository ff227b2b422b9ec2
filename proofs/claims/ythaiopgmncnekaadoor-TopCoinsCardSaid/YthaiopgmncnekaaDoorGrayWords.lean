/- gray.Code, gray.Place, gray.Flip; math/bits.TrailingZeros64, OnesCount64: what they answer. Condition of Flip: the table of math/bits is as its initialiser lays it. -/
import Derived.Test.YthaiopgmncnekaaDoorGrayW64
import Derived.RegionTactic
import Derived.ChangeAlike
import Derived.Lib.TrailingZeros
set_option linter.unusedSimpArgs false
set_option linter.unusedVariables false
namespace Go.Proofs.YthaiopgmncnekaaDoor.Gray
open Go.RowKit
attribute [local go_sem] xor_U and_U or_U
theorem d1 (x : BitVec 64) : U x / (2 : Int) = U (x >>> 1) := div_U x 1
theorem d2 (x : BitVec 64) : U x / (4 : Int) = U (x >>> 2) := div_U x 2
theorem d4 (x : BitVec 64) : U x / (16 : Int) = U (x >>> 4) := div_U x 4
theorem d8 (x : BitVec 64) : U x / (256 : Int) = U (x >>> 8) := div_U x 8
theorem d16 (x : BitVec 64) : U x / (65536 : Int) = U (x >>> 16) := div_U x 16
theorem d32 (x : BitVec 64) : U x / (4294967296 : Int) = U (x >>> 32) := div_U x 32
attribute [local go_sem] d1 d2 d4 d8 d16 d32
/-- A word and itself, shifted. -/
def sh (k : Nat) (x : BitVec 64) : BitVec 64 := x ^^^ x >>> k
def code (x : BitVec 64) : BitVec 64 := sh 1 x
def plk (x : BitVec 64) : Nat → BitVec 64
  | 0 => x
  | k + 1 => sh (2 ^ k) (plk x k)
def place (x : BitVec 64) : BitVec 64 := plk x 6
theorem ret_U {a b : BitVec 64} (h : a = b) : Ending.returned (.int .u64 (U a)) = .returned (.int .u64 (U b)) := by rw [h]
theorem code_any (x : BitVec 64) (w : World) :
    Calls Tryd.prog 22 #[.int .u64 (U x)] w fun e w' => e = .returned (.int .u64 (U (code x))) ∧ w = w' := by
  go_enter Tryd.func22, Tryd.ntmps22
  go_wp2_with fail
  go_ret
  exact ⟨by simp only [d1, xor_U]; rfl, rfl⟩
def pc1 (x : BitVec 64) : BitVec 64 := (x >>> 1 &&& 6148914691236517205#64) + (x &&& 6148914691236517205#64)
def pc2 (x : BitVec 64) : BitVec 64 := (x >>> 2 &&& 3689348814741910323#64) + (x &&& 3689348814741910323#64)
def pc3 (x : BitVec 64) : BitVec 64 := (x >>> 4 + x) &&& 1085102592571150095#64
def pc4 (x : BitVec 64) : BitVec 64 := x + x >>> 8
def pc5 (x : BitVec 64) : BitVec 64 := x + x >>> 16
def pc6 (x : BitVec 64) : BitVec 64 := x + x >>> 32
def pcw (x : BitVec 64) : BitVec 64 := pc6 (pc5 (pc4 (pc3 (pc2 (pc1 x)))))
theorem add_UU (x y : BitVec 64) : IntKind.u64.wrap (U x + U y) = U (x + y) := by
  unfold U; rw [IntKind.wrap_u64, BitVec.toNat_add]; omega
theorem and_k1 (x : BitVec 64) : bits .and .u64 (U x) 6148914691236517205 = U (x &&& 6148914691236517205#64) := and_U x 6148914691236517205#64
theorem and_k2 (x : BitVec 64) : bits .and .u64 (U x) 3689348814741910323 = U (x &&& 3689348814741910323#64) := and_U x 3689348814741910323#64
theorem and_k3 (x : BitVec 64) : bits .and .u64 (U x) 1085102592571150095 = U (x &&& 1085102592571150095#64) := and_U x 1085102592571150095#64
attribute [local go_sem] add_UU and_k1 and_k2 and_k3
set_option maxHeartbeats 400000 in
theorem ones_any (x : BitVec 64) (w : World) :
    Calls Tryd.prog 21 #[.int .u64 (U x)] w fun e w' => e = .returned (.int .i64 (bits .and .i64 (wrap64 (U (pcw x))) 127)) ∧ w = w' := by
  go_enter Tryd.func21, Tryd.ntmps21
  go_wp2_with fail
  go_ret
  exact ⟨by simp only [d1, d2, d4, d8, d16, d32, add_UU, and_k1, and_k2, and_k3]; rfl, rfl⟩
end Go.Proofs.YthaiopgmncnekaaDoor.Gray
