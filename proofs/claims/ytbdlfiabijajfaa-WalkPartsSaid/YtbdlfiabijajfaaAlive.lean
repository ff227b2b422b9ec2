/- walk.Catalan, First, Between in their range; alive17. No condition. -/
import Derived.Test.YtbdlfiabijajfaaFree
set_option linter.unusedSimpArgs false
set_option linter.unusedVariables false
namespace Go.Proofs.Ytbdlfiabijajfaa
open Go.RowKit
theorem cf_small56 : ∀ d, d < 57 → ∀ i, i < 29 → d + i ≤ 56 → i ≤ d → cf d i ≤ 8000000000000000 := by decide +kernel
theorem fr_le56 (n : Nat) (hn : n ≤ 56) (to : Int) : fr n to ≤ 8000000000000000 := by
  unfold fr
  split
  · omega
  · rename_i h
    unfold ofN
    split
    · omega
    · exact cf_small56 _ (by omega) _ (by omega) (by omega) (by omega)
theorem Catalan_any (n : Nat) (hn : n ≤ 28) (w : World) : Calls Try.prog 11 #[.int .i64 n] w fun e w' => e = .returned (.tuple #[.int .i64 (ab (2 * n) 1 1), .int .i64 0]) ∧ Below w.heap.size w w' := by
  have H : Hid (∀ w, Calls Try.prog 10 #[.int .i64 (2 * (n : Int)), .int .i64 1, .int .i64 1] w fun e w' => e = .returned (.tuple #[.int .i64 (ab (2 * n) 1 1), .int .i64 0]) ∧ Below w.heap.size w w') := by
    intro w
    have := Above_any (2 * n) (by omega) 1 1 (by omega) (by omega) (by omega) (by omega) w
    rwa [Int.natCast_mul] at this
  generalize ab (2 * n) 1 1 = o at *
  go_enter Try.func11, Try.ntmps11
  go_wp2_with fail
  refine (H.out _).mono ?_
  rintro e w' ⟨rfl, hb⟩
  go_wp2_with fail
  go_ret2
  exact ⟨rfl, hb⟩
def fi (n : Nat) : Int := if n < 2 ∨ n % 2 = 1 then 0 else 2 * ab (n - 2) 1 1
set_option maxHeartbeats 400000 in
theorem First_any (n : Nat) (hn : n ≤ 56) (w : World) : Calls Try.prog 12 #[.int .i64 n] w fun e w' => e = .returned (.tuple #[.int .i64 (fi n), .int .i64 0]) ∧ Below w.heap.size w w' := by
  by_cases h2 : n < 2
  · have HF : Hid (fi n = 0) := by show _ = _; rw [fi, if_pos (.inl h2)]
    go_enter Try.func12, Try.ntmps12
    go_wp2_with fail
    refine (wrong_no n hn _ [] (by simp) _ (Rd.nil _)).mono ?_
    rintro e w' ⟨rfl, rfl⟩
    go_wp2_with fail
    go_ret2
    exact ⟨by rw [HF.out]; rfl, Below.refl _ _⟩
  · by_cases hp : n % 2 = 1
    · have HF : Hid (fi n = 0) := by show _ = _; rw [fi, if_pos (.inr hp)]
      have hp' : ((n : Int) % 2 == 1) = true := by rw [beq_iff_eq]; omega
      clear hp
      go_enter Try.func12, Try.ntmps12
      go_wp2_with fail
      refine (wrong_no n hn _ [] (by simp) _ (Rd.nil _)).mono ?_
      rintro e w' ⟨rfl, rfl⟩
      go_wp2_with fail
      go_ret2
      exact ⟨by rw [HF.out]; rfl, Below.refl _ _⟩
    · have HF : Hid (fi n = 2 * ab (n - 2) 1 1) := by show _ = _; rw [fi, if_neg (by omega)]
      have hp' : ((n : Int) % 2 == 1) = false := by rw [beq_eq_false_iff_ne]; omega
      clear hp
      obtain ⟨m, rfl⟩ : ∃ m, n = m + 2 := ⟨n - 2, by omega⟩
      rw [Nat.add_sub_cancel] at HF
      have hab : -8000000000000000 ≤ ab m 1 1 ∧ ab m 1 1 ≤ 8000000000000000 := by
        have l1 := fr_le56 m (by omega) (1 - 1)
        have l2 := fr_le56 m (by omega) (1 + 1)
        unfold ab; omega
      obtain ⟨hab1, hab2⟩ := hab
      have HW := Lib.hid (wrong_no (m + 2) hn (.slice none 0 0) [] (by simp))
      have hm2 : ((m + 2 : Nat) : Int) - 2 = (m : Int) := by omega
      have H := Lib.hid (fun w => Above_any m (by omega) 1 1 (by omega) (by omega) (by omega) (by omega) w)
      generalize ab m 1 1 = o at *
      generalize m + 2 = n at *
      go_enter Try.func12, Try.ntmps12
      go_wp2_with fail
      refine (HW.out _ (Rd.nil _)).mono ?_
      rintro e w' ⟨rfl, rfl⟩
      go_wp2_with fail
      refine (H.out _).mono ?_
      rintro e w' ⟨rfl, hb⟩
      go_wp2_with fail
      go_ret2
      exact ⟨by rw [HF.out]; rfl, hb⟩
def tm (n : Nat) (frm to top : Int) (k : Int) : Int := (fr n (to - frm + 2 * k * top) : Int) - (fr n (to + frm + 2 * k * top) : Int)
def bs (n : Nat) (frm to top : Int) : Nat → Int
  | 0 => 0
  | j + 1 => bs n frm to top j + tm n frm to top ((j : Int) - 56)
theorem bs_bd (n : Nat) (hn : n ≤ 56) (frm to top : Int) (j : Nat) : -(8000000000000000 * (j : Int)) ≤ bs n frm to top j ∧ bs n frm to top j ≤ 8000000000000000 * (j : Int) := by
  induction j with
  | zero => simp [bs]
  | succ j ih =>
    have l1 := fr_le56 n hn (to - frm + 2 * ((j : Int) - 56) * top)
    have l2 := fr_le56 n hn (to + frm + 2 * ((j : Int) - 56) * top)
    simp only [bs, tm]
    omega
def bt (n : Nat) (frm to top : Int) : Int := if frm < 1 ∨ to < 1 ∨ top ≤ frm ∨ top ≤ to then 0 else bs n frm to top 113
set_option maxHeartbeats 800000 in
theorem Between_any (n : Nat) (hn : n ≤ 56) (frm to top : Int) (h1 : 1 ≤ frm) (h2 : frm ≤ 100) (h3 : 1 ≤ to) (h4 : to ≤ 100) (h5 : 1 ≤ top) (h6 : top ≤ 100) (w : World) : Calls Try.prog 13 #[.int .i64 n, .int .i64 frm, .int .i64 to, .int .i64 top] w fun e w' => e = .returned (.tuple #[.int .i64 (bt n frm to top), .int .i64 0]) ∧ Below w.heap.size w w' := by
  have HW := Lib.hid (fun (w : World) h => wrong_no n hn (.slice (some ⟨w.heap.size, 0, none⟩) 3 3) [frm, to, top] (by simp; omega) (w.alloc (.cells #[.int .i64 frm, .int .i64 to, .int .i64 top] 3)) h)
  by_cases c1 : top ≤ frm
  · have HF : Hid (bt n frm to top = 0) := by show _ = _; rw [bt, if_pos (by omega)]
    go_enter Try.func13, Try.ntmps13
    go_wp2_with fail
    refine (HW.out _ (Rd.built w [frm, to, top] _ _ rfl 3 rfl (by decide))).mono ?_
    rintro e w' ⟨rfl, rfl⟩
    go_wp2_with fail
    go_ret2
    exact ⟨by rw [HF.out]; rfl, (Below.refl _ _).alloc (Nat.le_refl _) _⟩
  · by_cases c2 : top ≤ to
    · have HF : Hid (bt n frm to top = 0) := by show _ = _; rw [bt, if_pos (by omega)]
      go_enter Try.func13, Try.ntmps13
      go_wp2_with fail
      refine (HW.out _ (Rd.built w [frm, to, top] _ _ rfl 3 rfl (by decide))).mono ?_
      rintro e w' ⟨rfl, rfl⟩
      go_wp2_with fail
      go_ret2
      exact ⟨by rw [HF.out]; rfl, (Below.refl _ _).alloc (Nat.le_refl _) _⟩
    · have HF : Hid (bt n frm to top = bs n frm to top 113) := by show _ = _; rw [bt, if_neg (by omega)]
      go_enter Try.func13, Try.ntmps13
      go_wp2_with fail
      refine (HW.out _ (Rd.built w [frm, to, top] _ _ rfl 3 rfl (by decide))).mono ?_
      rintro e w' ⟨rfl, rfl⟩
      go_wp2_with fail
      go_loopw [10, 11] (fun s k wr => ∃ j : Nat, j ≤ 113 ∧ k = .int .i64 ((j : Int) - 56) ∧ s = .int .i64 (bs n frm to top j) ∧ Below w.heap.size w wr) (fun _ k _ => (57 - intOf k).toNat)
      case atStart => exact ⟨0, by omega, rfl, rfl, (Below.refl _ _).alloc (Nat.le_refl _) _⟩
      case round =>
        obtain ⟨j, hj, rfl, rfl, hbel⟩ := hrel
        by_cases hlt : j < 113
        · have hb1 := bs_bd n hn frm to top j
          have hb2 := bs_bd n hn frm to top (j + 1)
          have HS : Hid (bs n frm to top (j + 1) = bs n frm to top j + ((fr n (to - frm + 2 * ((j : Int) - 56) * top) : Int) - (fr n (to + frm + 2 * ((j : Int) - 56) * top) : Int))) := rfl
          have hk0 : -11200 ≤ 2 * ((j : Int) - 56) * top := by
            have : (-112 : Int) * top ≤ 2 * ((j : Int) - 56) * top := Int.mul_le_mul_of_nonneg_right (by omega) (by omega)
            omega
          have hk1 : 2 * ((j : Int) - 56) * top ≤ 11200 := by
            have : 2 * ((j : Int) - 56) * top ≤ (112 : Int) * top := Int.mul_le_mul_of_nonneg_right (by omega) (by omega)
            omega
          have l1 := fr_le56 n hn (to - frm + 2 * ((j : Int) - 56) * top)
          have l2 := fr_le56 n hn (to + frm + 2 * ((j : Int) - 56) * top)
          have H1 := Lib.hid (fun w => free_any n hn (to - frm + 2 * ((j : Int) - 56) * top) (by omega) (by omega) w)
          have H2 := Lib.hid (fun w => free_any n hn (to + frm + 2 * ((j : Int) - 56) * top) (by omega) (by omega) w)
          generalize fr n (to - frm + 2 * ((j : Int) - 56) * top) = o1 at *
          generalize fr n (to + frm + 2 * ((j : Int) - 56) * top) = o2 at *
          clear hb2
          obtain ⟨hb1, hb1'⟩ := hb1
          generalize bs n frm to top j = s at *
          go_wp2_with fail
          refine (H1.out _).mono ?_
          rintro e w1 ⟨rfl, hq1⟩
          go_wp2_with fail
          refine (H2.out _).mono ?_
          rintro e w2 ⟨rfl, hq2⟩
          go_wp2_with fail
          have hs0 := hbel.size
          have hs1 := hq1.size
          go_roundw
          case rel => exact ⟨j + 1, by omega, by simp; omega, by rw [HS.out], (hbel.trans (hq1.mono (by omega))).trans (hq2.mono (by omega))⟩
          case measure => simp [intOf]; omega
        · obtain rfl : j = 113 := by omega
          generalize hq : bs n frm to top 113 = s at *
          go_wp2_with fail
          go_ret2
          exact ⟨by rw [HF.out]; rfl, hbel⟩
end Go.Proofs.Ytbdlfiabijajfaa
