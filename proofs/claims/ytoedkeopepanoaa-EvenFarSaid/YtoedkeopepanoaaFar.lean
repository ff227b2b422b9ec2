/- Walk of even.Far. No condition. -/
import Derived.Test.YtoedkeopepanoaaTurn
import Derived.Test.YtoedkeopepanoaaFarDef
set_option linter.unusedSimpArgs false
set_option linter.unusedVariables false
namespace Go.Proofs.Ytoedkeopepanoaa
open Go.RowKit
theorem Try.info3 : (Try.prog.info? 3).map (fun i => (i.zero, i.size, i.bytes)) = some (some (.int .i64 0), 1, 8) := by kernel_rfl
theorem max3 (z d : Int) : (if (if z < d then d else z) < -d then -d else if z < d then d else z) = max (max z d) (-d) := by
  simp only [Int.max_def]; split <;> split <;> split <;> omega
def FarOk (base digits many : Int) : Prop := Valid base digits ∧ 0 ≤ many ∧ many ≤ 400 ∧ base.toNat ^ digits.toNat ≤ 4096
set_option maxHeartbeats 800000 in
theorem far_good (b d many : Nat) (hv : Valid b d) (hm : many ≤ 400) (hp : b ^ d ≤ 4096) (w : World) : Calls Try.prog 12 #[.int .i64 b, .int .i64 d, .int .i64 many] w fun e w' =>
    e = .returned (.tuple #[.int .i64 (most (pts b d many) (b ^ d) (b ^ d)), .int .i64 0]) ∧ Below w.heap.size w w' := by
  obtain ⟨i0, hi, hz0, hz1, hz2⟩ := info_parts Try.info3
  have HV := Lib.hid hv
  have hb0 : 0 < b := by have := hv.1; omega
  clear hv
  have hq0 : 0 < b ^ d := Nat.pow_pos hb0
  have HPL := Lib.hid (pts_len b d many)
  have HPG := Lib.hid (fun n h => pts_get b d many n h)
  have HRL := Lib.hid (fun n => ro_lt b (n % b ^ d) d hb0)
  go_enter Try.func12, Try.ntmps12
  go_wp2_with fail
  refine (all_any b d _).mono ?_
  rintro e w' ⟨rfl, ⟨_, rfl⟩ | ⟨hnv, _⟩⟩
  rotate_left
  · exact absurd HV.out hnv
  have HQ : Hid (((b : Int).toNat ^ (d : Int).toNat : Nat) = b ^ d) := by show _ = _; simp
  rw [HQ.out]
  clear HQ
  have HT := Lib.hid (fun n w => turn_good b d n HV.out w)
  generalize hqq : b ^ d = q at *
  generalize hl : pts b d many = l at *
  have HL := Lib.hid hl; clear hl
  have HQQ := Lib.hid hqq; clear hqq
  go_wp2_with (refine wpList_make_full _ rfl _ _ 36 rfl w.heap.size 3 i0 (.int .i64 0) 1 Try.underlying36 hi hz0 hz1 .i64 .i64 _ _ q rfl rfl rfl rfl ?b2 ?b3 (Nat.le_refl _) ?_)
  case b2 => rw [hz2]; omega
  case b3 => unfold maxLen; omega
  intro w4 hown hgr
  rw [zeros_eq] at hown
  have hB4 : Below w.heap.size w w4 := (Below.refl _ _).grown hgr (Nat.le_refl _) (fun k hk => by cases hk)
  clear hgr
  go_wp2_with fail
  generalize hgg : w.heap.size = g at *
  have HGG := Lib.hid hgg; clear hgg
  go_loopw [43] (fun i wr => ∃ (k : Nat) (c : List Int), k ≤ many ∧ i = .int .i64 k ∧ wr.ownsRow g 3 1 (.slice (some ⟨g, 0, none⟩) q q) q (c.map (Value.int .i64)) ∧ Hid (Counts c l k q) ∧ Below g w wr) (fun i _ => many - (intOf i).toNat)
  case atStart => exact ⟨0, _, Nat.zero_le _, rfl, hown, Counts.zero l _, hB4⟩
  case round =>
    clear hown hB4
    obtain ⟨k, c, hk, rfl, hown, hcnt, hbel⟩ := hrel
    by_cases hlt : k < many
    · go_wp2_with fail
      refine (HT.out k _).mono ?_
      rintro e w' ⟨rfl, rfl⟩
      have hrl : ro b (k % q) d < q := HRL.out k
      have HG := Lib.hid (HPG.out k hlt)
      generalize ro b (k % q) d = x at *
      have c2 := own_get hown x hrl
      have cb := hcnt.out.bd hrl
      rw [HPL.out] at cb
      have cf := hown.frozenAt x
      have HC2 := Lib.hid (hcnt.out.step (by rw [HPL.out]; exact hlt) HG.out hrl)
      have HB2 := Lib.hid (hbel.setCell (Nat.le_refl _) (p := ⟨g, x, none⟩) (.int .i64 (c.getD x 0 + 1)))
      have HO3 := Lib.hid (own_set hown x (c.getD x 0 + 1))
      clear hown hbel hcnt
      generalize c.getD x 0 = y at *
      go_wp2_with fail
      go_roundw
      case rel => exact ⟨k + 1, _, by omega, by go_num, HO3.out, HC2.out, HB2.out⟩
      case measure => simp [intOf]; omega
    · obtain rfl : k = many := by omega
      have HCc : Hid (∀ j : Nat, j < q → c.getD j 0 = (l.count (j : Int) : Int)) := fun j hj => by
        have := hcnt.out.2 j hj; rwa [← HPL.out, List.take_length] at this
      have HW := Lib.hid hown
      clear hown hcnt
      go_wp2_with fail
      obtain ⟨wo, rfl⟩ : ∃ wo : World, wo = wr := ⟨_, rfl⟩
      go_loopw [14, 15, 62] (fun mo be i wq => ∃ j : Nat, j ≤ q ∧ i = .int .i64 j ∧ be = .int .i64 (Bl l j) ∧ mo = .int .i64 (most l q j) ∧ wq = wo) (fun _ _ i _ => q - (intOf i).toNat)
      case atStart => exact ⟨0, Nat.zero_le _, rfl, rfl, rfl, rfl⟩
      case round =>
        obtain ⟨j, hj, rfl, rfl, rfl, rfl⟩ := hrel
        by_cases hlt2 : j < q
        · have c2 := own_get HW.out j hlt2
          have hs : Bl l (j + 1) = Bl l j + c.getD j 0 := by rw [HCc.out j hlt2]; rfl
          have hb1 := Bl_le l j
          have hb2 := Bl_le l (j + 1)
          rw [hs, HPL.out] at hb2
          rw [HPL.out] at hb1
          have hm1 : 0 ≤ (Bl l j + c.getD j 0) * (q : Int) := Int.mul_nonneg hb2.1 (by omega)
          have hm2 : (Bl l j + c.getD j 0) * (q : Int) ≤ 400 * 4096 := Int.mul_le_mul (by omega) (by omega) (by omega) (by omega)
          have hm3 : 0 ≤ (k : Int) * ((j : Int) + 1) := Int.mul_nonneg (by omega) (by omega)
          have hm4 : (k : Int) * ((j : Int) + 1) ≤ 400 * 4096 := Int.mul_le_mul (by omega) (by omega) (by omega) (by omega)
          have HS := Lib.hid hs; clear hs
          have HD : Hid (dif l q j = (Bl l j + c.getD j 0) * (q : Int) - (k : Int) * ((j : Int) + 1)) := by show _ = _; unfold dif; rw [HS.out, HPL.out]
          have HM : Hid (most l q (j + 1) = max (max (most l q j) (dif l q j)) (-(dif l q j))) := rfl
          generalize c.getD j 0 = x at *
          generalize Bl l j = y at *
          generalize most l q j = z at *
          go_wp2_with fail
          go_roundw
          case rel => exact ⟨j + 1, by omega, by go_num, by rw [HS.out], by rw [HM.out, HD.out, max3], trivial⟩
          case measure => simp [intOf]; omega
        · obtain rfl : j = q := by omega
          go_wp2_with fail
          go_ret2
          refine ⟨?_, ?_⟩
          · rw [HQQ.out, HL.out]; rfl
          · rw [HGG.out]; exact hbel
end Go.Proofs.Ytoedkeopepanoaa
