/- math/bits.Div64 at two inputs. -/
import Derived.Test.YtkaejoejaohpcaaMul
set_option linter.unusedSimpArgs false
set_option linter.unusedVariables false
namespace Go.Proofs.Ytkaejoejaohpcaa
open Go.RowKit
set_option maxHeartbeats 800000 in
set_option maxRecDepth 20000 in
theorem div64_a (w : World) : Calls Try.prog 21 #[.int .u64 0, .int .u64 1, .int .u64 3] w fun e w' => e = .returned (.tuple #[.int .u64 0, .int .u64 1]) ∧ Below w.heap.size w w' := by
  go_enter Try.func21, Try.ntmps21
  go_wp2_with fail
  go_quiet (fail)
  go_wp2_with fail
  go_ret2
  exact ⟨rfl, (Below.refl _ _).drewN _⟩
set_option maxHeartbeats 800000 in
set_option maxRecDepth 20000 in
theorem div64_b (w : World) : Calls Try.prog 21 #[.int .u64 1, .int .u64 0, .int .u64 3] w fun e w' => e = .returned (.tuple #[.int .u64 6148914691236517205, .int .u64 1]) ∧ Below w.heap.size w w' := by
  have h62 : (64 - ((Lib.bitLen (3 : Int).toNat : Nat) : Int)) = 62 := by decide +kernel
  have HZ : Hid (Calls Try.prog 25 #[.int .u64 3] w fun e w' => e = .returned (.int .i64 62) ∧ w = w') := (Try.bits_LeadingZeros64 3 w (by decide) (by decide)).mono fun e w' ⟨h1, h2⟩ => ⟨by rw [h1, h62], h2.symm⟩
  clear h62
  have hor : bits BinOp.or IntKind.u64 4611686018427387904 0 = 4611686018427387904 := by decide +kernel
  have hand : bits BinOp.and IntKind.u64 0 4294967295 = 0 := by decide +kernel
  have hwr : ∀ x, IntKind.u64.wrap x = x % 18446744073709551616 := fun x => IntKind.wrap_u64 x
  go_enter Try.func21, Try.ntmps21
  go_wp2_with fail
  refine HZ.out.mono ?_
  rintro e w1 ⟨rfl, rfl⟩
  go_wp2_with fail
  go_loopw [15, 16] (fun q r wr => q = .int .u64 1431655765 ∧ r = .int .u64 1073741824 ∧ Hid (w = wr)) (fun _ _ _ => 0)
  case atStart => exact ⟨rfl, rfl, rfl⟩
  case round =>
    obtain ⟨rfl, rfl, HW⟩ := hrel
    have hw : w = wr := HW.out
    subst hw
    go_wp2_with fail
    go_loopw [18, 16] (fun q r wr => q = .int .u64 1431655765 ∧ r = .int .u64 1073741824 ∧ Hid (w = wr)) (fun _ _ _ => 0)
    case atStart => exact ⟨rfl, rfl, rfl⟩
    case round =>
      clear HW
      obtain ⟨rfl, rfl, HW⟩ := hrel
      have hw : w = wr := HW.out
      subst hw
      go_wp2_with fail
      go_ret2
      exact ⟨rfl, Below.refl _ _⟩
end Go.Proofs.Ytkaejoejaohpcaa
