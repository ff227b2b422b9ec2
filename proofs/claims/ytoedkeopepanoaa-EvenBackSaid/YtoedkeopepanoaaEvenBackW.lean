/- The walk of EvenBack. No condition. -/
import Derived.Test.YtoedkeopepanoaaAlive
set_option linter.unusedSimpArgs false
set_option linter.unusedVariables false
namespace Go.Proofs.Ytoedkeopepanoaa.evenBack
open Go.RowKit Go.Proofs.Ytoedkeopepanoaa
theorem walk_good (b d n m : Nat) (hv : Valid b d) (w : World) : Calls Try.prog 3 #[.int .i64 b, .int .i64 d, .int .i64 n, .int .i64 m] w fun e w' => e = .returned (.bool true) ∧ Below w.heap.size w w' := by
  have hb0 : 0 < b := by have := hv.1; omega
  have hq0 : 0 < b ^ d := Nat.pow_pos hb0
  have hn := Nat.mod_lt n hq0
  have hm := Nat.mod_lt m hq0
  have hx := ro_lt b (n % b ^ d) d hb0
  have HV := Lib.hid hv
  have HA := Lib.hid (fun w => all_any b d w)
  have H1 := Lib.hid (fun w => turn_good b d n hv w)
  have H2 := Lib.hid (fun w => turn_good b d m hv w)
  have H3 : Hid (∀ w, Calls Try.prog 9 #[.int .i64 b, .int .i64 d, .int .i64 ((ro b (n % b ^ d) d : Nat) : Int)] w fun e w' => w = w' ∧ e = .returned (.tuple #[.int .i64 (n % b ^ d : Nat), .int .i64 0])) := by
    intro w
    have := turn_good b d (ro b (n % b ^ d) d) hv w
    rw [Nat.mod_eq_of_lt hx, ro_ro b _ d hb0 hn] at this
    exact this
  have HI := Lib.hid (fun h => ro_inj b (n % b ^ d) (m % b ^ d) d hb0 hn hm h)
  have HI2 : Hid (n % b ^ d = m % b ^ d → ro b (n % b ^ d) d = ro b (m % b ^ d) d) := fun h => by rw [h]
  have HQ : Hid (((b : Int).toNat ^ (d : Int).toNat : Nat) = b ^ d) := by show _ = _; simp
  unfold AllPost at HA
  rw [HQ.out] at HA
  have hq1 : b ^ d ≤ 1073741824 := by have := hv.2.2.2.2; simpa using this
  have HM1 := Lib.hid (Int.natCast_emod n (b ^ d))
  have HM2 := Lib.hid (Int.natCast_emod m (b ^ d))
  clear hv HQ
  generalize b ^ d = q at *
  generalize ro b (n % q) d = x at *
  generalize ro b (m % q) d = y at *
  have e0 : (((n % q : Nat) : Int) == (n : Int) % (q : Int)) = true := by rw [HM1.out]; simp
  have hq1' : (1 : Int) ≤ (q : Int) := by omega
  by_cases hc : n % q = m % q
  all_goals
    first
    | (have hxy := HI2.out hc
       have e1 : ((x : Int) == (y : Int)) = true := by rw [beq_iff_eq]; omega
       have e2 : ((n : Int) % (q : Int) == (m : Int) % (q : Int)) = true := by rw [← HM1.out, ← HM2.out, hc]; simp
       clear hxy)
    | (have hxy : x ≠ y := fun h => hc (HI.out h)
       have e1 : ((x : Int) == (y : Int)) = false := by rw [beq_eq_false_iff_ne]; omega
       have e2 : ((n : Int) % (q : Int) == (m : Int) % (q : Int)) = false := by
         rw [← HM1.out, ← HM2.out, beq_eq_false_iff_ne]; intro h; apply hc; exact Int.ofNat_inj.1 h
       clear hxy)
    clear hc hn hm
    generalize n % q = nq at *
    generalize m % q = mq at *
    go_enter Try.func3, Try.ntmps3
    go_wp2_with fail
    refine (alive_any _).mono ?_
    rintro e w1 ⟨rfl, hb1⟩
    go_wp2_with fail
    refine (HA.out _).mono ?_
    rintro e w' ⟨rfl, ⟨_, rfl⟩ | ⟨hnv, _⟩⟩
    rotate_left
    · exact absurd HV.out hnv
    go_wp2_with fail
    refine (H1.out _).mono ?_
    rintro e w' ⟨rfl, rfl⟩
    go_wp2_with fail
    refine (H2.out _).mono ?_
    rintro e w' ⟨rfl, rfl⟩
    go_wp2_with fail
    refine (H3.out _).mono ?_
    rintro e w' ⟨rfl, rfl⟩
    go_wp2_with fail
    go_quiet (fail)
    go_wp2_with fail
    go_ret
    exact ⟨rfl, hb1.drewN _⟩
theorem walk_inv (base digits n m : Int) (hv : ¬ Valid base digits) (w : World) : Calls Try.prog 3 #[.int .i64 base, .int .i64 digits, .int .i64 n, .int .i64 m] w fun e w' => e = .returned (.bool true) ∧ Below w.heap.size w w' := by
  have HV := Lib.hid hv; clear hv
  go_enter Try.func3, Try.ntmps3
  go_wp2_with fail
  refine (alive_any _).mono ?_
  rintro e w1 ⟨rfl, hb1⟩
  go_wp2_with fail
  refine (all_any base digits _).mono ?_
  rintro e w' ⟨rfl, ⟨hv, _⟩ | ⟨_, c, hc, rfl⟩⟩
  · exact absurd hv HV.out
  have hc' : (c != 0) = true := by rw [bne_iff_ne]; omega
  have hc2 : (c == 0) = false := by rw [beq_eq_false_iff_ne]; omega
  go_wp2_with fail
  refine (turn_any base digits n _).mono ?_
  rintro e w' ⟨rfl, ⟨hv, _⟩ | ⟨_, c2, hc2, rfl⟩⟩
  · exact absurd hv HV.out
  go_wp2_with fail
  refine (turn_any base digits m _).mono ?_
  rintro e w' ⟨rfl, ⟨hv, _⟩ | ⟨_, c3, hc3, rfl⟩⟩
  · exact absurd hv HV.out
  go_wp2_with fail
  go_ret
  exact ⟨by simp, hb1⟩
theorem walk_neg (base digits n m : Int) (hv : Valid base digits) (hn : n < 0 ∨ m < 0) (w : World) : Calls Try.prog 3 #[.int .i64 base, .int .i64 digits, .int .i64 n, .int .i64 m] w fun e w' => e = .returned (.bool true) ∧ Below w.heap.size w w' := by
  have HV := Lib.hid hv; clear hv
  have HN := Lib.hid hn; clear hn
  go_enter Try.func3, Try.ntmps3
  go_wp2_with fail
  refine (alive_any _).mono ?_
  rintro e w1 ⟨rfl, hb1⟩
  go_wp2_with fail
  refine (all_any base digits _).mono ?_
  rintro e w' ⟨rfl, ⟨_, rfl⟩ | ⟨hnv, _⟩⟩
  rotate_left
  · exact absurd HV.out hnv
  generalize base.toNat ^ digits.toNat = q at *
  go_wp2_with fail
  refine (turn_any base digits n _).mono ?_
  rintro e w' ⟨rfl, ⟨_, hn0, rfl⟩ | ⟨_, c2, hc2, rfl⟩⟩
  · have hm0 : m < 0 := by have := HN.out; omega
    go_wp2_with fail
    refine (turn_any base digits m _).mono ?_
    rintro e w' ⟨rfl, ⟨_, hm1, _⟩ | ⟨_, c3, hc3, rfl⟩⟩
    · omega
    have hc' : (c3 != 0) = true := by rw [bne_iff_ne]; omega
    generalize ro base.toNat (n.toNat % base.toNat ^ digits.toNat) digits.toNat = x at *
    go_wp2_with fail
    go_ret
    exact ⟨by simp, hb1⟩
  · have hc' : (c2 != 0) = true := by rw [bne_iff_ne]; omega
    go_wp2_with fail
    refine (turn_any base digits m _).mono ?_
    rintro e w' ⟨rfl, ⟨_, hm1, rfl⟩ | ⟨_, c3, hc3, rfl⟩⟩
    · generalize ro base.toNat (m.toNat % base.toNat ^ digits.toNat) digits.toNat = x at *
      go_wp2_with fail
      go_ret
      exact ⟨by simp, hb1⟩
    · go_wp2_with fail
      go_ret
      exact ⟨by simp, hb1⟩
theorem walk (a0 a1 a2 a3 : Int) (w : World) (w0 : (Lit.int .i64 a0).wf = true) (w1 : (Lit.int .i64 a1).wf = true) (w2 : (Lit.int .i64 a2).wf = true) (w3 : (Lit.int .i64 a3).wf = true) :
    Calls Try.prog 3 #[.int .i64 a0, .int .i64 a1, .int .i64 a2, .int .i64 a3] w fun e w' => e = .returned (.bool true) ∧ Below w.heap.size w w' := by
  by_cases hv : Valid a0 a1
  · by_cases hn : a2 < 0 ∨ a3 < 0
    · exact walk_neg a0 a1 a2 a3 hv hn w
    · obtain ⟨b, rfl⟩ : ∃ b : Nat, a0 = b := ⟨a0.toNat, by have := hv.1; omega⟩
      obtain ⟨d, rfl⟩ : ∃ d : Nat, a1 = d := ⟨a1.toNat, by have := hv.2.2.1; omega⟩
      obtain ⟨n, rfl⟩ : ∃ n : Nat, a2 = n := ⟨a2.toNat, by omega⟩
      obtain ⟨m, rfl⟩ : ∃ m : Nat, a3 = m := ⟨a3.toNat, by omega⟩
      exact walk_good b d n m hv w
  · exact walk_inv a0 a1 a2 a3 hv w
end Go.Proofs.Ytoedkeopepanoaa.evenBack
