/- The walk of DiceMean. No condition. -/
import Derived.Test.YthjdhnjclcijhaaAl
set_option linter.unusedSimpArgs false
set_option linter.unusedVariables false
namespace Go.Proofs.Ythjdhnjclcijhaa.diceMean
open Go.RowKit Go.Proofs.Ythjdhnjclcijhaa
theorem ways_le {zs : List Int} (h : RightL zs) : ways zs ≤ 200 * 1048576 := Nat.le_trans (tot_le (fun j _ => h.le j)) (Nat.mul_le_mul_right _ h.1)
theorem total_le {zs : List Int} (h : RightL zs) : total zs ≤ 200 * (200 * 1048576) :=
  Nat.le_trans (tot_le (f := fun k => k * nd zs k) (c := 200 * 1048576) (fun j hj => Nat.mul_le_mul (by have := h.1; omega) (h.le j))) (Nat.mul_le_mul_right _ h.1)
set_option maxHeartbeats 1600000 in
theorem walk (a : Option Addr) (len cap : Nat) (z : List Int) (a2 : Option Addr) (len2 cap2 : Nat) (z2 : List Int) (w : World) (h : IsRow .i64 w a len cap z) (h2 : IsRow .i64 w a2 len2 cap2 z2) :
    Calls Try.prog 6 #[.slice a len cap, .slice a2 len2 cap2] w fun e w' => e = .returned (.bool true) ∧ Below w.heap.size w w' := by
  have hx := h.rd.1
  have hy := h2.rd.1
  clear h h2
  generalize z.take len = xs at *
  generalize z2.take len2 = ys at *
  have HX := Lib.hid hx
  have HY := Lib.hid hy
  clear hx hy
  go_enter Try.func6, Try.ntmps6
  go_wp2_with fail
  refine (alive_any _).mono ?_
  rintro e w1 ⟨rfl, hb1⟩
  have HX1 := Lib.hid (HX.out.below hb1 (Nat.le_refl _))
  have HY1 := Lib.hid (HY.out.below hb1 (Nat.le_refl _))
  have HB1 := Lib.hid hb1
  clear hb1
  go_wp2_with fail
  refine (sum_any _ _ xs ys _ HX1.out HY1.out).mono ?_
  rintro e w2 ⟨hb2, hs⟩
  have HX2 := Lib.hid (HX1.out.below hb2 (Nat.le_refl _))
  have HY2 := Lib.hid (HY1.out.below hb2 (Nat.le_refl _))
  have HB2 := Lib.hid (HB1.out.trans (hb2.mono HB1.out.size))
  clear hb2 HX1 HY1 HB1
  rcases hs with ⟨ra, rb, rs, v, hv, rfl⟩ | ⟨ra, rb, rs, rfl⟩ | ⟨rn, rfl⟩
  · have HV := Lib.hid hv
    have M1 := Lib.hid (mean_ok _ xs _ HX2.out ra)
    have M2 := Lib.hid (mean_ok _ ys _ HY2.out rb)
    have M3 := Lib.hid (mean_ok _ _ _ HV.out rs)
    rw [sumL_ways, sumL_total] at M3
    have w1 := ways_le ra
    have w2' := ways_le rb
    have t1 := total_le ra
    have t2 := total_le rb
    have hSb := total_le rs
    rw [sumL_total] at hSb
    clear hv rs ra rb
    have m1 : (ways xs : Int) * (ways ys : Int) = ((ways xs * ways ys : Nat) : Int) := by simp
    have m2 : (total xs : Int) * (ways ys : Int) = ((total xs * ways ys : Nat) : Int) := by simp
    have m3 : (total ys : Int) * (ways xs : Int) = ((total ys * ways xs : Nat) : Int) := by simp
    have b1 : ways xs * ways ys ≤ (200 * 1048576) * (200 * 1048576) := Nat.mul_le_mul w1 w2'
    have b2 : total xs * ways ys ≤ (200 * (200 * 1048576)) * (200 * 1048576) := Nat.mul_le_mul t1 w2'
    have b3 : total ys * ways xs ≤ (200 * (200 * 1048576)) * (200 * 1048576) := Nat.mul_le_mul t2 w1
    generalize ways xs * ways ys = P1 at *
    generalize total xs * ways ys = P2 at *
    generalize total ys * ways xs = P3 at *
    generalize ways xs = a1 at *
    generalize ways ys = a3 at *
    generalize total xs = a5 at *
    generalize total ys = a6 at *
    generalize hS : P2 + P3 = S at *
    have hSI : (P2 : Int) + (P3 : Int) = (S : Int) := by omega
    clear hS
    go_wp2_with fail
    refine M1.out.mono ?_
    rintro e w3 ⟨rfl, rfl⟩
    go_wp2_with fail
    refine M2.out.mono ?_
    rintro e w3 ⟨rfl, rfl⟩
    go_wp2_with fail
    refine M3.out.mono ?_
    rintro e w3 ⟨rfl, rfl⟩
    go_wp2_with fail
    go_ret
    exact ⟨by simp, HB2.out⟩
  · go_wp2_with fail
    go_ret
    exact ⟨by simp, HB2.out⟩
  · go_wp2_with fail
    go_ret
    exact ⟨by simp, HB2.out⟩
end Go.Proofs.Ythjdhnjclcijhaa.diceMean
