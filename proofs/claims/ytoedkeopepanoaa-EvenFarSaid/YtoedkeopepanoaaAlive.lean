/- Walks of even.Pair, of Far out of its range, and of alive25. No condition. -/
import Derived.Test.YtoedkeopepanoaaFar
set_option linter.unusedSimpArgs false
set_option linter.unusedVariables false
namespace Go.Proofs.Ytoedkeopepanoaa
open Go.RowKit
theorem far_bad (base digits many : Int) (hn : ¬ FarOk base digits many) (w : World) : Calls Try.prog 12 #[.int .i64 base, .int .i64 digits, .int .i64 many] w fun e w' =>
    ∃ c : Int, 0 < c ∧ e = .returned (.tuple #[.int .i64 0, .int .i64 c]) ∧ w = w' := by
  have HN := Lib.hid hn; clear hn
  by_cases hv : Valid base digits
  · have HV := Lib.hid hv; clear hv
    by_cases h1 : many < 0
    · go_enter Try.func12, Try.ntmps12
      go_wp2_with fail
      refine (all_any base digits _).mono ?_
      rintro e w' ⟨rfl, ⟨_, rfl⟩ | ⟨hnv, _⟩⟩
      rotate_left
      · exact absurd HV.out hnv
      generalize base.toNat ^ digits.toNat = q at *
      go_wp2_with fail
      go_ret2
      exact ⟨_, by decide, rfl, rfl⟩
    · by_cases h2 : 400 < many
      · go_enter Try.func12, Try.ntmps12
        go_wp2_with fail
        refine (all_any base digits _).mono ?_
        rintro e w' ⟨rfl, ⟨_, rfl⟩ | ⟨hnv, _⟩⟩
        rotate_left
        · exact absurd HV.out hnv
        generalize base.toNat ^ digits.toNat = q at *
        go_wp2_with fail
        go_ret2
        exact ⟨_, by decide, rfl, rfl⟩
      · have h3 : 4096 < base.toNat ^ digits.toNat := by
          rcases Nat.lt_or_ge 4096 (base.toNat ^ digits.toNat) with h | h
          · exact h
          · exact absurd ⟨HV.out, by omega, by omega, h⟩ HN.out
        have H3 := Lib.hid h3; clear h3
        go_enter Try.func12, Try.ntmps12
        go_wp2_with fail
        refine (all_any base digits _).mono ?_
        rintro e w' ⟨rfl, ⟨_, rfl⟩ | ⟨hnv, _⟩⟩
        rotate_left
        · exact absurd HV.out hnv
        have H4 := H3.out
        generalize base.toNat ^ digits.toNat = q at *
        go_wp2_with fail
        go_ret2
        exact ⟨_, by decide, rfl, rfl⟩
  · have HV := Lib.hid hv; clear hv
    go_enter Try.func12, Try.ntmps12
    go_wp2_with fail
    refine (all_any base digits _).mono ?_
    rintro e w' ⟨rfl, ⟨hv, _⟩ | ⟨_, c, hc, rfl⟩⟩
    · exact absurd hv HV.out
    · have hc' : (c != 0) = true := by rw [bne_iff_ne]; omega
      go_wp2_with fail
      go_ret2
      exact ⟨_, hc, rfl, rfl⟩
theorem pair_good (a i b j n : Nat) (h1 : Valid a i) (h2 : Valid b j) (w : World) : Calls Try.prog 11 #[.int .i64 a, .int .i64 i, .int .i64 b, .int .i64 j, .int .i64 n] w fun e w' =>
    w = w' ∧ e = .returned (.tuple #[.int .i64 (ro a (n % a ^ i) i : Nat), .int .i64 (ro b (n % b ^ j) j : Nat), .int .i64 0]) := by
  have H1 := Lib.hid (fun w => turn_good a i n h1 w)
  have H2 := Lib.hid (fun w => turn_good b j n h2 w)
  clear h1 h2
  generalize ro a (n % a ^ i) i = x at *
  generalize ro b (n % b ^ j) j = y at *
  go_enter Try.func11, Try.ntmps11
  go_wp2_with fail
  refine (H1.out _).mono ?_
  rintro e w' ⟨rfl, rfl⟩
  go_wp2_with fail
  refine (H2.out _).mono ?_
  rintro e w' ⟨rfl, rfl⟩
  go_wp2_with fail
  go_ret3
  exact ⟨rfl, rfl⟩
theorem v1 : Valid (2 : Nat) (3 : Nat) := ⟨by decide, by decide, by decide, by decide, by decide⟩
theorem v2 : Valid (2 : Nat) (2 : Nat) := ⟨by decide, by decide, by decide, by decide, by decide⟩
theorem v3 : Valid (3 : Nat) (1 : Nat) := ⟨by decide, by decide, by decide, by decide, by decide⟩
theorem a1 (w : World) : Calls Try.prog 9 #[.int .i64 2, .int .i64 3, .int .i64 3] w fun e w' => w = w' ∧ e = .returned (.tuple #[.int .i64 6, .int .i64 0]) := turn_good 2 3 3 v1 w
theorem a2 (w : World) : Calls Try.prog 11 #[.int .i64 2, .int .i64 2, .int .i64 3, .int .i64 1, .int .i64 5] w fun e w' => w = w' ∧ e = .returned (.tuple #[.int .i64 2, .int .i64 2, .int .i64 0]) := pair_good 2 2 3 1 5 v2 v3 w
theorem a3 (w : World) : Calls Try.prog 12 #[.int .i64 2, .int .i64 2, .int .i64 4] w fun e w' => e = .returned (.tuple #[.int .i64 0, .int .i64 0]) ∧ Below w.heap.size w w' := by
  have h := far_good 2 2 4 v2 (by decide) (by decide) w
  have e : most (pts 2 2 4) (2 ^ 2) (2 ^ 2) = 0 := by decide +kernel
  rw [e] at h; exact h
theorem alive_any (w : World) : Calls Try.prog 7 #[] w fun e w' => e = .returned (.bool true) ∧ Below w.heap.size w w' := by
  go_enter Try.func7, Try.ntmps7
  go_wp2_with fail
  refine (a1 _).mono ?_
  rintro e w' ⟨rfl, rfl⟩
  go_wp2_with fail
  refine (a2 _).mono ?_
  rintro e w' ⟨rfl, rfl⟩
  go_wp2_with fail
  refine (a3 _).mono ?_
  rintro e w' ⟨rfl, hb⟩
  go_wp2_with fail
  go_ret
  exact ⟨rfl, hb⟩
end Go.Proofs.Ytoedkeopepanoaa
