/- The walk of EvenFar. No condition. -/
import Derived.Test.YtoedkeopepanoaaAlive
import Derived.Test.YtoedkeopepanoaaFarLaw2
set_option linter.unusedSimpArgs false
set_option linter.unusedVariables false
namespace Go.Proofs.Ytoedkeopepanoaa.evenFar
open Go.RowKit Go.Proofs.Ytoedkeopepanoaa
set_option maxHeartbeats 400000 in
theorem walk_good (b d m : Nat) (hv : Valid b d) (hm : m ≤ 400) (hp : b ^ d ≤ 4096) (w : World) : Calls Try.prog 6 #[.int .i64 b, .int .i64 d, .int .i64 m] w fun e w' => e = .returned (.bool true) ∧ Below w.heap.size w w' := by
  have hb0 : 0 < b := by have := hv.1; omega
  have hp0 : 0 < b ^ d := Nat.pow_pos hb0
  have HV := Lib.hid hv
  have HF := Lib.hid (fun w => far_good b d m hv hm hp w)
  have HA := Lib.hid (fun w => all_any b d w)
  have HQ : Hid (((b : Int).toNat ^ (d : Int).toNat : Nat) = b ^ d) := by show _ = _; simp
  unfold AllPost at HA
  rw [HQ.out] at HA
  clear HQ
  obtain ⟨⟨k0, k1⟩, k2⟩ := most_bd b d m hb0 (b ^ d) (Nat.le_refl _)
  have hd30 : (d : Int) ≤ 30 := hv.2.2.2.1
  have hb36 : (b : Int) ≤ 36 := hv.2.1
  clear hv
  generalize b ^ d = p at *
  generalize most (pts b d m) p p = z at *
  have hpd0 : 0 ≤ (p : Int) * d := Int.mul_nonneg (by omega) (by omega)
  have hpd1 : (p : Int) * d ≤ 4096 * 30 := Int.mul_le_mul (by omega) (by omega) (by omega) (by omega)
  have hpb0 : 0 ≤ (p : Int) * d * b := Int.mul_nonneg hpd0 (by omega)
  have hpb1 : (p : Int) * d * b ≤ 4096 * 30 * 36 := Int.mul_le_mul hpd1 hb36 (by omega) (by omega)
  have hp1 : (1 : Int) ≤ (p : Int) := by omega
  have HM := Lib.hid (Int.natCast_emod m p)
  by_cases hdv : m % p = 0
  · have hz : z = 0 := k2 (Nat.dvd_of_mod_eq_zero hdv)
    subst hz
    have hmz : ((m : Int) % (p : Int) != 0) = false := by rw [← HM.out, hdv]; rfl
    clear k2 hdv
    go_enter Try.func6, Try.ntmps6
    go_wp2_with fail
    refine (alive_any _).mono ?_
    rintro e w1 ⟨rfl, hb1⟩
    go_wp2_with fail
    refine (HF.out _).mono ?_
    rintro e w2 ⟨rfl, hb2⟩
    go_wp2_with fail
    refine (HA.out _).mono ?_
    rintro e w' ⟨rfl, ⟨_, rfl⟩ | ⟨hnv, _⟩⟩
    rotate_left
    · exact absurd HV.out hnv
    go_wp2_with fail
    go_ret
    exact ⟨by simp, hb1.trans (hb2.mono hb1.size)⟩
  · have hmz : ((m : Int) % (p : Int) != 0) = true := by rw [← HM.out, bne_iff_ne]; omega
    clear k2 hdv
    go_enter Try.func6, Try.ntmps6
    go_wp2_with fail
    refine (alive_any _).mono ?_
    rintro e w1 ⟨rfl, hb1⟩
    go_wp2_with fail
    refine (HF.out _).mono ?_
    rintro e w2 ⟨rfl, hb2⟩
    go_wp2_with fail
    refine (HA.out _).mono ?_
    rintro e w' ⟨rfl, ⟨_, rfl⟩ | ⟨hnv, _⟩⟩
    rotate_left
    · exact absurd HV.out hnv
    go_wp2_with fail
    go_ret
    exact ⟨by simp, hb1.trans (hb2.mono hb1.size)⟩
theorem walk_bad (base digits many : Int) (hn : ¬ FarOk base digits many) (w : World) : Calls Try.prog 6 #[.int .i64 base, .int .i64 digits, .int .i64 many] w fun e w' => e = .returned (.bool true) ∧ Below w.heap.size w w' := by
  have HN := Lib.hid hn; clear hn
  go_enter Try.func6, Try.ntmps6
  go_wp2_with fail
  refine (alive_any _).mono ?_
  rintro e w1 ⟨rfl, hb1⟩
  go_wp2_with fail
  refine (far_bad base digits many HN.out _).mono ?_
  rintro e w2 ⟨c, hc, rfl, rfl⟩
  have hc' : (c != 0) = true := by rw [bne_iff_ne]; omega
  go_wp2_with fail
  refine (all_any base digits _).mono ?_
  rintro e w' ⟨rfl, ⟨_, rfl⟩ | ⟨hnv, c2, hc2, rfl⟩⟩
  · generalize base.toNat ^ digits.toNat = p at *
    go_wp2_with fail
    go_ret
    exact ⟨by simp, hb1⟩
  · go_wp2_with fail
    go_ret
    exact ⟨by simp, hb1⟩
theorem walk (a0 a1 a2 : Int) (w : World) (w0 : (Lit.int .i64 a0).wf = true) (w1 : (Lit.int .i64 a1).wf = true) (w2 : (Lit.int .i64 a2).wf = true) :
    Calls Try.prog 6 #[.int .i64 a0, .int .i64 a1, .int .i64 a2] w fun e w' => e = .returned (.bool true) ∧ Below w.heap.size w w' := by
  by_cases hv : FarOk a0 a1 a2
  · obtain ⟨b, rfl⟩ : ∃ b : Nat, a0 = b := ⟨a0.toNat, by have := hv.1.1; omega⟩
    obtain ⟨d, rfl⟩ : ∃ d : Nat, a1 = d := ⟨a1.toNat, by have := hv.1.2.2.1; omega⟩
    obtain ⟨m, rfl⟩ : ∃ m : Nat, a2 = m := ⟨a2.toNat, by have := hv.2.1; omega⟩
    exact walk_good b d m hv.1 (by have := hv.2.2.1; omega) (by simpa using hv.2.2.2) w
  · exact walk_bad a0 a1 a2 hv w
end Go.Proofs.Ytoedkeopepanoaa.evenFar
