/- Walks of even.pow, All and Turn. No condition. -/
import Derived.Test.YtoedkeopepanoaaDef
import Derived.Test.YtoedkeopepanoaaGen
set_option linter.unusedSimpArgs false
set_option linter.unusedVariables false
namespace Go.Proofs.Ytoedkeopepanoaa
open Go.RowKit
theorem pow_le_of {b i n : Nat} (hb : 2 ≤ b) (h : i ≤ n) : b ^ i ≤ b ^ n := Nat.pow_le_pow_right (by omega) h
def PowPost (b n : Nat) (w : World) (e : Ending) (w' : World) : Prop :=
  w = w' ∧ ((b ^ n ≤ 1073741824 ∧ e = .returned (.tuple #[.int .i64 (b ^ n : Nat), .bool true])) ∨ (1073741824 < b ^ n ∧ e = .returned (.tuple #[.int .i64 0, .bool false])))
set_option maxHeartbeats 400000 in
theorem pow_any (b n : Nat) (hb2 : 2 ≤ b) (hb36 : b ≤ 36) (hn : n ≤ 30) (w : World) : Calls Try.prog 13 #[.int .i64 b, .int .i64 n] w (PowPost b n w) := by
  go_enter Try.func13, Try.ntmps13
  go_wp2_with fail
  go_loop [6, 8] (fun p i => ∃ k : Nat, k ≤ n ∧ i = .int .i64 k ∧ p = .int .i64 ((b ^ k : Nat) : Int) ∧ b ^ k ≤ 1073741824) (fun _ i => n - (intOf i).toNat)
  case atStart => exact ⟨0, Nat.zero_le _, rfl, by simp, by simp⟩
  case round =>
    obtain ⟨k, hk, rfl, rfl, hp⟩ := hrel
    by_cases hlt : k < n
    · have HP := Lib.hid (show ((b ^ k : Nat) : Int) * b = ((b ^ (k + 1) : Nat) : Int) by rw [Nat.pow_succ]; simp)
      have HS := Lib.hid (Nat.pow_succ (n := b) (m := k))
      have hq0 : 0 ≤ ((b ^ k : Nat) : Int) * b := by rw [HP.out]; omega
      have hq1 : ((b ^ k : Nat) : Int) * b ≤ 38654705664 := by
        have : ((b ^ k : Nat) : Int) * b ≤ 1073741824 * 36 := Int.mul_le_mul (by omega) (by omega) (by omega) (by omega)
        omega
      by_cases hbig : ((b ^ k : Nat) : Int) * b ≤ 1073741824
      · generalize ((b ^ k : Nat) : Int) = q at *
        go_wp2_with fail
        go_round
        case rel => exact ⟨k + 1, by omega, by go_num, by rw [HP.out], by have := HP.out; omega⟩
        case measure => simp [intOf]; omega
      · have hmono := pow_le_of hb2 (show k + 1 ≤ n by omega)
        have HM := Lib.hid hmono; clear hmono
        generalize ((b ^ k : Nat) : Int) = q at *
        go_wp2_with fail
        go_ret2
        refine ⟨rfl, .inr ⟨?_, rfl⟩⟩
        have := HM.out; have := HP.out; omega
    · obtain rfl : k = n := by omega
      go_wp2_with fail
      go_ret2
      exact ⟨rfl, .inl ⟨hp, rfl⟩⟩

def AllPost (base digits : Int) (w : World) (e : Ending) (w' : World) : Prop :=
  w = w' ∧ ((Valid base digits ∧ e = .returned (.tuple #[.int .i64 ((base.toNat ^ digits.toNat : Nat) : Int), .int .i64 0])) ∨ (¬ Valid base digits ∧ ∃ c : Int, 0 < c ∧ e = .returned (.tuple #[.int .i64 0, .int .i64 c])))
set_option maxHeartbeats 400000 in
theorem all_any (base digits : Int) (w : World) : Calls Try.prog 8 #[.int .i64 base, .int .i64 digits] w (AllPost base digits w) := by
  by_cases h1 : base < 2
  · go_enter Try.func8, Try.ntmps8
    go_wp2_with fail
    go_ret2
    exact ⟨rfl, .inr ⟨fun h => by have := h.1; omega, _, by decide, rfl⟩⟩
  · by_cases h2 : 36 < base
    · go_enter Try.func8, Try.ntmps8
      go_wp2_with fail
      go_ret2
      exact ⟨rfl, .inr ⟨fun h => by have := h.2.1; omega, _, by decide, rfl⟩⟩
    · by_cases h3 : digits < 0
      · go_enter Try.func8, Try.ntmps8
        go_wp2_with fail
        go_ret2
        exact ⟨rfl, .inr ⟨fun h => by have := h.2.2.1; omega, _, by decide, rfl⟩⟩
      · by_cases h4 : 30 < digits
        · go_enter Try.func8, Try.ntmps8
          go_wp2_with fail
          go_ret2
          exact ⟨rfl, .inr ⟨fun h => by have := h.2.2.2.1; omega, _, by decide, rfl⟩⟩
        · obtain ⟨b, rfl⟩ : ∃ b : Nat, base = b := ⟨base.toNat, by omega⟩
          obtain ⟨d, rfl⟩ : ∃ d : Nat, digits = d := ⟨digits.toNat, by omega⟩
          go_enter Try.func8, Try.ntmps8
          go_wp2_with fail
          refine (pow_any b d (by omega) (by omega) (by omega) _).mono ?_
          rintro e w' ⟨rfl, ⟨hp, rfl⟩ | ⟨hp, rfl⟩⟩
          · have HP := Lib.hid hp; clear hp
            have HQ : Hid (((b : Int).toNat ^ (d : Int).toNat : Nat) = b ^ d) := by show _ = _; simp
            generalize hg : b ^ d = q at *
            clear hg
            go_wp2_with fail
            go_ret2
            refine ⟨rfl, .inl ⟨⟨by omega, by omega, by omega, by omega, by rw [HQ.out]; exact HP.out⟩, by rw [HQ.out]; rfl⟩⟩
          · have HP := Lib.hid hp; clear hp
            go_wp2_with fail
            go_ret2
            exact ⟨rfl, .inr ⟨fun h => by have h1 := h.2.2.2.2; have := HP.out; simp at h1; omega, _, by decide, rfl⟩⟩
def TurnPost (base digits n : Int) (w : World) (e : Ending) (w' : World) : Prop :=
  w = w' ∧ ((Valid base digits ∧ 0 ≤ n ∧ e = .returned (.tuple #[.int .i64 (ro base.toNat (n.toNat % base.toNat ^ digits.toNat) digits.toNat : Nat), .int .i64 0])) ∨ (¬ (Valid base digits ∧ 0 ≤ n) ∧ ∃ c : Int, 0 < c ∧ e = .returned (.tuple #[.int .i64 0, .int .i64 c])))
set_option maxHeartbeats 400000 in
theorem turn_good (b d n : Nat) (hv : Valid b d) (w : World) : Calls Try.prog 9 #[.int .i64 b, .int .i64 d, .int .i64 n] w fun e w' => w = w' ∧ e = .returned (.tuple #[.int .i64 (ro b (n % b ^ d) d : Nat), .int .i64 0]) := by
  have HV := Lib.hid hv
  obtain ⟨h1, h2, h3, h4, h5⟩ := hv
  have HPB := Lib.hid h5; clear h5
  have hb0 : 0 < b := by omega
  go_enter Try.func9, Try.ntmps9
  go_wp2_with fail
  refine (all_any b d _).mono ?_
  rintro e w' ⟨rfl, ⟨_, rfl⟩ | ⟨hnv, _⟩⟩
  · have hq0 : 0 < b ^ d := Nat.pow_pos hb0
    have hq1 : b ^ d ≤ 1073741824 := by have := HPB.out; simpa using this
    have HQ : Hid (((b : Int).toNat ^ (d : Int).toNat : Nat) = b ^ d) := by show _ = _; simp
    rw [HQ.out]
    clear HQ
    have hml := Nat.mod_lt n hq0
    have HM := Lib.hid (Int.natCast_emod n (b ^ d))
    generalize hqq : b ^ d = q at *
    have HQ := Lib.hid hqq; clear hqq
    have hq0' : (1 : Int) ≤ (q : Int) := by omega
    have hb1 : (1 : Int) ≤ (b : Int) := by omega
    go_wp2_with fail
    rw [← HM.out]
    generalize hmm : n % q = m at *
    have HMM := Lib.hid hmm; clear hmm
    go_loop [2, 10, 28] (fun x o i => ∃ k : Nat, k ≤ d ∧ i = .int .i64 k ∧ x = .int .i64 ((m / b ^ k : Nat) : Int) ∧ o = .int .i64 (ro b m k : Nat)) (fun _ _ i => d - (intOf i).toNat)
    case atStart => exact ⟨0, Nat.zero_le _, rfl, by simp, by simp [ro]⟩
    case round =>
      obtain ⟨k, hk, rfl, rfl, rfl⟩ := hrel
      by_cases hlt : k < d
      · have hr := ro_lt b m k hb0
        have hp := pow_le_of (show 2 ≤ b by omega) hk
        rw [HQ.out] at hp
        have hr1 : ro b m k ≤ 1073741824 := by omega
        have hx1 : m / b ^ k ≤ m := Nat.div_le_self _ _
        have hx2 : (0 : Int) ≤ (ro b m k : Int) * b := Int.mul_nonneg (by omega) (by omega)
        have hx3 : (ro b m k : Int) * b ≤ 38654705664 := by
          have : (ro b m k : Int) * b ≤ 1073741824 * 36 := Int.mul_le_mul (by omega) (by omega) (by omega) (by omega)
          omega
        have HR : Hid (((ro b m (k + 1) : Nat) : Int) = (ro b m k : Int) * b + ((m / b ^ k : Nat) : Int) % b) := by show _ = _; simp [ro]
        have HX : Hid (((m / b ^ (k + 1) : Nat) : Int) = ((m / b ^ k : Nat) : Int) / b) := by show _ = _; rw [← div_pow_succ, Int.natCast_ediv]
        have hm0 : 0 ≤ ((m / b ^ k : Nat) : Int) % b := Int.emod_nonneg _ (by omega)
        have hm1 : ((m / b ^ k : Nat) : Int) % b < b := Int.emod_lt_of_pos _ (by omega)
        have hd0 : 0 ≤ ((m / b ^ k : Nat) : Int) / b := Int.ediv_nonneg (Int.natCast_nonneg _) (by omega)
        have hd1 : ((m / b ^ k : Nat) : Int) / b ≤ ((m / b ^ k : Nat) : Int) := Int.ediv_le_self _ (Int.natCast_nonneg _)
        clear hr hp
        generalize ro b m k = r at *
        generalize m / b ^ k = y at *
        go_wp2_with fail
        go_round
        case rel => exact ⟨k + 1, by omega, by go_num, by rw [HX.out], by rw [HR.out]⟩
        case measure => simp [intOf]; omega
      · obtain rfl : k = d := by omega
        have HF : Hid (ro b (n % b ^ k) k = ro b m k) := by show _ = _; rw [HQ.out, HMM.out]
        generalize ro b m k = r at *
        generalize m / b ^ k = y at *
        go_wp2_with fail
        go_ret2
        exact ⟨rfl, by rw [HF.out]; rfl⟩
  · exact absurd HV.out hnv
set_option maxHeartbeats 400000 in
theorem turn_any (base digits n : Int) (w : World) : Calls Try.prog 9 #[.int .i64 base, .int .i64 digits, .int .i64 n] w (TurnPost base digits n w) := by
  by_cases hv : Valid base digits
  · by_cases hn : 0 ≤ n
    · obtain ⟨b, rfl⟩ : ∃ b : Nat, base = b := ⟨base.toNat, by have := hv.1; omega⟩
      obtain ⟨d, rfl⟩ : ∃ d : Nat, digits = d := ⟨digits.toNat, by have := hv.2.2.1; omega⟩
      obtain ⟨m, rfl⟩ := Int.eq_ofNat_of_zero_le hn
      exact (turn_good b d m hv w).mono fun e w' ⟨h1, h2⟩ => ⟨h1, .inl ⟨hv, hn, by simpa using h2⟩⟩
    · have HV := Lib.hid hv; clear hv
      have hn' : n < 0 := by omega
      go_enter Try.func9, Try.ntmps9
      go_wp2_with fail
      refine (all_any base digits _).mono ?_
      rintro e w' ⟨rfl, ⟨_, rfl⟩ | ⟨hnv, _⟩⟩
      · generalize base.toNat ^ digits.toNat = q at *
        go_wp2_with fail
        go_ret2
        exact ⟨rfl, .inr ⟨fun h => by have := h.2; omega, _, by decide, rfl⟩⟩
      · exact absurd HV.out hnv
  · have HV := Lib.hid hv; clear hv
    go_enter Try.func9, Try.ntmps9
    go_wp2_with fail
    refine (all_any base digits _).mono ?_
    rintro e w' ⟨rfl, ⟨hv, rfl⟩ | ⟨hnv, c, hc, rfl⟩⟩
    · exact absurd hv HV.out
    · have hc' : (c != 0) = true := by rw [bne_iff_ne]; omega
      go_wp2_with fail
      go_ret2
      exact ⟨rfl, .inr ⟨fun h => hnv h.1, _, hc, rfl⟩⟩
end Go.Proofs.Ytoedkeopepanoaa
