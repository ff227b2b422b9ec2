/- gray.Code, gray.Place, gray.Flip; math/bits.TrailingZeros64, OnesCount64: what they answer. Condition of Flip: the table of math/bits is as its initialiser lays it. -/
import Derived.Test.YtoinpfcmolkhiaaDoorW64
import Derived.RegionTactic
import Derived.ChangeAlike
import Derived.Lib.TrailingZeros
set_option linter.unusedSimpArgs false
set_option linter.unusedVariables false
namespace Go.Proofs.YtoinpfcmolkhiaaDoor
open Go.RowKit
attribute [local go_sem] xor_U and_U or_U
theorem d1 (x : BitVec 64) : U x / (2 : Int) = U (x >>> 1) := div_U x 1
theorem d2 (x : BitVec 64) : U x / (4 : Int) = U (x >>> 2) := div_U x 2
theorem d4 (x : BitVec 64) : U x / (16 : Int) = U (x >>> 4) := div_U x 4
theorem d8 (x : BitVec 64) : U x / (256 : Int) = U (x >>> 8) := div_U x 8
theorem d16 (x : BitVec 64) : U x / (65536 : Int) = U (x >>> 16) := div_U x 16
theorem d32 (x : BitVec 64) : U x / (4294967296 : Int) = U (x >>> 32) := div_U x 32
attribute [local go_sem] d1 d2 d4 d8 d16 d32
/-- A word and itself, shifted. -/
def sh (k : Nat) (x : BitVec 64) : BitVec 64 := x ^^^ x >>> k
def code (x : BitVec 64) : BitVec 64 := sh 1 x
def plk (x : BitVec 64) : Nat → BitVec 64
  | 0 => x
  | k + 1 => sh (2 ^ k) (plk x k)
def place (x : BitVec 64) : BitVec 64 := plk x 6
theorem ret_U {a b : BitVec 64} (h : a = b) : Ending.returned (.int .u64 (U a)) = .returned (.int .u64 (U b)) := by rw [h]
theorem code_any (x : BitVec 64) (w : World) :
    Calls Tryd.prog 8 #[.int .u64 (U x)] w fun e w' => e = .returned (.int .u64 (U (code x))) ∧ w = w' := by
  go_enter Tryd.func8, Tryd.ntmps8
  go_wp2_with fail
  go_ret
  exact ⟨by simp only [d1, xor_U]; rfl, rfl⟩
theorem place_any (x : BitVec 64) (w : World) :
    Calls Tryd.prog 9 #[.int .u64 (U x)] w fun e w' => e = .returned (.int .u64 (U (place x))) ∧ w = w' := by
  have HS : Hid (∀ k, plk x (k + 1) = plk x k ^^^ plk x k >>> (2 ^ k)) := fun k => rfl
  go_enter Tryd.func9, Tryd.ntmps9
  go_wp2_with fail
  go_loop [3, 4] (fun nv bv => ∃ k : Nat, k ≤ 6 ∧ nv = .int .u64 (U (plk x k)) ∧ bv = .int .i64 ((2 ^ k : Nat) : Int)) (fun _ bv => (64 - intOf bv).toNat)
  case atStart => exact ⟨0, by omega, rfl, rfl⟩
  case round =>
    obtain ⟨k, hk, rfl, rfl⟩ := hrel
    have hs := HS.out k
    have HK := Lib.hid hs
    clear hs
    obtain ⟨y, hy⟩ : ∃ y, plk x k = y := ⟨_, rfl⟩
    have HY := Lib.hid hy
    rw [hy] at HK ⊢
    clear hy
    rcases (show k = 0 ∨ k = 1 ∨ k = 2 ∨ k = 3 ∨ k = 4 ∨ k = 5 ∨ k = 6 by omega) with rfl | rfl | rfl | rfl | rfl | rfl | rfl
    · go_wp2_with fail
      go_round
      case rel => exact ⟨1, by omega, by rw [HK.out], rfl⟩
      case measure => simp [intOf]
    · go_wp2_with fail
      go_round
      case rel => exact ⟨2, by omega, by rw [HK.out], rfl⟩
      case measure => simp [intOf]
    · go_wp2_with fail
      go_round
      case rel => exact ⟨3, by omega, by rw [HK.out], rfl⟩
      case measure => simp [intOf]
    · go_wp2_with fail
      go_round
      case rel => exact ⟨4, by omega, by rw [HK.out], rfl⟩
      case measure => simp [intOf]
    · go_wp2_with fail
      go_round
      case rel => exact ⟨5, by omega, by rw [HK.out], rfl⟩
      case measure => simp [intOf]
    · go_wp2_with fail
      go_round
      case rel => exact ⟨6, by omega, by rw [HK.out], rfl⟩
      case measure => simp [intOf]
    · go_wp2_with fail
      go_ret
      exact ⟨by rw [← HY.out]; rfl, rfl⟩
/-- The table of math/bits in its variable. -/
def TabAt (w : World) : Prop := ∀ j, j < 64 → w.cell? ⟨0, j, none⟩ = some (.int .u8 (Lib.deBruijn64tab.getD j 0))
set_option maxHeartbeats 1000000 in
theorem tz_core (x k idx : Nat) (w : World) (hx0 : ((x : Int) == 0) = false)
    (key : IntKind.u64.wrap (bits BinOp.and IntKind.u64 (x : Int) (IntKind.u64.wrap (-(x : Int))) * 285870213051353865) / 288230376151711744 = (idx : Int))
    (hi : idx < 64) (hk : k < 64) (hcell : w.cell? ⟨0, idx, none⟩ = some (.int .u8 k)) :
    Calls Tryd.prog 21 #[.int .u64 x] w fun e w' => e = .returned (.int .i64 k) ∧ w = w' := by
  go_enter Tryd.func21, Tryd.ntmps21
  go_wp2_with (simp only [key])
  go_ret
  exact ⟨rfl, rfl⟩
theorem tz_key (x a : Nat) (hx : x < 18446744073709551616) (hx0 : x ≠ 0) (hlow : x &&& (18446744073709551616 - x) = a) :
    IntKind.u64.wrap (bits BinOp.and IntKind.u64 (x : Int) (IntKind.u64.wrap (-(x : Int))) * 285870213051353865) / 288230376151711744 = ((a * 285870213051353865 % 18446744073709551616 / 288230376151711744 : Nat) : Int) := by
  have e1 : IntKind.u64.wrap (-(x : Int)) = ((18446744073709551616 - x : Nat) : Int) := by rw [IntKind.wrap_u64]; omega
  rw [e1, bits_and_u64_nat x _ hx (by omega), hlow, IntKind.wrap_u64]
  omega
theorem tz_any (x : Nat) (hx : x < 18446744073709551616) (h0 : x ≠ 0) (w : World) (hT : TabAt w) :
    Calls Tryd.prog 21 #[.int .u64 x] w fun e w' => e = .returned (.int .i64 (Lib.ctz 64 x : Nat)) ∧ w = w' := by
  obtain ⟨hlow, hk⟩ := Lib.lowest_bit 64 x h0 hx
  obtain ⟨hi, htab⟩ := Lib.deBruijn64_at _ hk
  have hcell := hT _ hi
  rw [htab] at hcell
  exact tz_core x _ _ w (by simp; omega) (tz_key x _ hx h0 hlow) hi hk hcell
theorem flip_none (w : World) :
    Calls Tryd.prog 17 #[.int .u64 18446744073709551615] w fun e w' => e = .returned (.tuple #[.int .i64 0, .int .i64 3]) ∧ w = w' := by
  go_enter Tryd.func17, Tryd.ntmps17
  go_wp2_with fail
  go_ret2
  exact ⟨rfl, rfl⟩
theorem flip_some (x : Nat) (hx : x < 18446744073709551615) (w : World) (hT : TabAt w) :
    Calls Tryd.prog 17 #[.int .u64 x] w fun e w' => e = .returned (.tuple #[.int .i64 (Lib.ctz 64 (x + 1) : Nat), .int .i64 0]) ∧ w = w' := by
  have h1 : ((x : Int) == 18446744073709551615) = false := by rw [beq_eq_false_iff_ne]; omega
  have h2 : IntKind.u64.wrap ((x : Int) + 1) = ((x + 1 : Nat) : Int) := by rw [IntKind.wrap_u64]; omega
  have HT := Lib.hid hT
  clear hT
  go_enter Tryd.func17, Tryd.ntmps17
  go_wp2_with fail
  refine (tz_any (x + 1) (by omega) (by omega) w HT.out).mono ?_
  rintro e w' ⟨rfl, rfl⟩
  go_wp2_with fail
  go_ret2
  exact ⟨rfl, rfl⟩
/-- How many bits of a word are set: the way of math/bits. -/
def pc1 (x : BitVec 64) : BitVec 64 := (x >>> 1 &&& 6148914691236517205#64) + (x &&& 6148914691236517205#64)
def pc2 (x : BitVec 64) : BitVec 64 := (x >>> 2 &&& 3689348814741910323#64) + (x &&& 3689348814741910323#64)
def pc3 (x : BitVec 64) : BitVec 64 := (x >>> 4 + x) &&& 1085102592571150095#64
def pc4 (x : BitVec 64) : BitVec 64 := x + x >>> 8
def pc5 (x : BitVec 64) : BitVec 64 := x + x >>> 16
def pc6 (x : BitVec 64) : BitVec 64 := x + x >>> 32
def pcw (x : BitVec 64) : BitVec 64 := pc6 (pc5 (pc4 (pc3 (pc2 (pc1 x)))))
theorem add_UU (x y : BitVec 64) : IntKind.u64.wrap (U x + U y) = U (x + y) := by
  unfold U; rw [IntKind.wrap_u64, BitVec.toNat_add]; omega
theorem and_k1 (x : BitVec 64) : bits .and .u64 (U x) 6148914691236517205 = U (x &&& 6148914691236517205#64) := and_U x 6148914691236517205#64
theorem and_k2 (x : BitVec 64) : bits .and .u64 (U x) 3689348814741910323 = U (x &&& 3689348814741910323#64) := and_U x 3689348814741910323#64
theorem and_k3 (x : BitVec 64) : bits .and .u64 (U x) 1085102592571150095 = U (x &&& 1085102592571150095#64) := and_U x 1085102592571150095#64
attribute [local go_sem] add_UU and_k1 and_k2 and_k3
set_option maxHeartbeats 400000 in
theorem ones_any (x : BitVec 64) (w : World) :
    Calls Tryd.prog 18 #[.int .u64 (U x)] w fun e w' => e = .returned (.int .i64 (bits .and .i64 (wrap64 (U (pcw x))) 127)) ∧ w = w' := by
  go_enter Tryd.func18, Tryd.ntmps18
  go_wp2_with fail
  go_ret
  exact ⟨by simp only [d1, d2, d4, d8, d16, d32, add_UU, and_k1, and_k2, and_k3]; rfl, rfl⟩
end Go.Proofs.YtoinpfcmolkhiaaDoor
