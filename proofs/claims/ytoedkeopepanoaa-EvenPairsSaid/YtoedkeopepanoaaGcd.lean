/- Walk of gcd. No condition. -/
import Derived.Test.YtoedkeopepanoaaGen
set_option linter.unusedSimpArgs false
set_option linter.unusedVariables false
namespace Go.Proofs.Ytoedkeopepanoaa
open Go.RowKit
set_option maxHeartbeats 400000 in
theorem gcd_any (a b : Nat) (ha : a ≤ 9223372036854775807) (hb : b ≤ 9223372036854775807) (w : World) : Calls Try.prog 10 #[.int .i64 a, .int .i64 b] w fun e w' => e = .returned (.int .i64 (Nat.gcd a b : Nat)) ∧ Below w.heap.size w w' := by
  go_enter Try.func10, Try.ntmps10
  go_wp2_with fail
  go_loopw [0, 1] (fun x y wr => ∃ (c d : Nat), x = .int .i64 c ∧ y = .int .i64 d ∧ c ≤ 9223372036854775807 ∧ d ≤ 9223372036854775807 ∧ Hid (Nat.gcd c d = Nat.gcd a b) ∧ Below w.heap.size w wr) (fun _ y _ => (intOf y).toNat)
  case atStart => exact ⟨a, b, rfl, rfl, ha, hb, rfl, Below.refl _ _⟩
  case round =>
    obtain ⟨c, d, rfl, rfl, hc, hd, hg, hbel⟩ := hrel
    by_cases h0 : 0 < d
    · have HM : Hid (((c % d : Nat) : Int) = (c : Int) % (d : Int)) := Int.natCast_emod c d
      have hml := Nat.mod_lt c h0
      have HG : Hid (Nat.gcd d (c % d) = Nat.gcd a b) := by
        show _ = _
        rw [← hg.out, Nat.gcd_comm c d, Nat.gcd_rec d c, Nat.gcd_comm]
      have hd1 : (1 : Int) ≤ (d : Int) := by omega
      generalize c % d = m at *
      go_wp2_with fail
      go_quiet (fail)
      go_wp2_with fail
      go_roundw
      case rel => exact ⟨d, m, rfl, by rw [HM.out], hd, by omega, HG, hbel.drewN _⟩
      case measure => rw [← HM.out]; simp [intOf]; omega
    · obtain rfl : d = 0 := by omega
      have HF : Hid (Nat.gcd a b = c) := by show _ = _; rw [← hg.out, Nat.gcd_zero_right]
      go_wp2_with fail
      go_ret
      exact ⟨by rw [HF.out]; rfl, hbel⟩
end Go.Proofs.Ytoedkeopepanoaa
