/- (*Rat).Neg, Sub, Sign, Cmp of two alike; (*Int).Cmp of two alike: what they leave. Condition: the two are the same fraction, not nought. -/
import Derived.Test.YtidnmdfpnmahpaaBigRatAdd
set_option linter.unusedSimpArgs false
set_option linter.unusedVariables false
set_option maxRecDepth 20000
namespace Go.Proofs.Ytidnmdfpnmahpaa.Big
open Go.RowKit
set_option maxHeartbeats 1600000 in
/-- A fraction in lowest terms turned below nought. -/
theorem rneg_any (zb xb : Nat) (A B : Nat) (w : World) (hz : Box w zb 4) (hx : RA w xb false A B) (hne : xb ≠ zb) (hA : A < 18446744073709551616) (hB : B < 18446744073709551616) (hA0 : 0 < A) (hB0 : 0 < B) (hg : Nat.gcd A B = 1) :
    Calls Try.prog 51 #[.pointer (some ⟨zb, 0, none⟩), .pointer (some ⟨xb, 0, none⟩)] w fun e w' => e = .returned (.pointer (some ⟨zb, 0, none⟩)) ∧ RPut w w' zb true A B := by
  have HZ := Lib.hid hz
  have hzl := hz.lt
  have HX := Lib.hid hx
  have hxl := hx.lt
  have hb0 := (Below.refl w.heap.size w).alloc (Nat.le_refl _) (.cells #[.bool false, .slice none 0 0] 46)
  have HB0 := Lib.hid hb0
  have HP0 := Lib.hid (Box.new w 46)
  have H1 := Lib.hid (neg_any w.heap.size 0 2 xb 0 false A _ HP0.out (by decide) (hx.2.1.below hb0) (by omega) (by omega))
  have hdd : dn B = B := if_neg (by omega)
  clear hz hx hb0
  go_enter Try.func51, Try.ntmps51
  go_wp2_with fail
  refine H1.out.mono ?_
  rintro e w1 ⟨rfl, hp⟩
  rw [show (!false && decide (A ≠ 0)) = true by simp; omega] at hp
  have HN := Lib.hid (hp.at HP0.out (by decide))
  have HB1 := Lib.hid (HB0.out.trans (hp.below (Nat.le_refl _) HB0.out.size))
  have H2 := Lib.hid (denom_any xb false A B w1 (HX.out.below HB1.out) hB)
  clear hp H1
  go_wp2_with fail
  refine H2.out.mono ?_
  rintro e w2 ⟨B2, rfl, b1, b2, b3, b4⟩
  have HB2 := Lib.hid (HB1.out.trans (b4.mono HB1.out.size))
  rw [hdd] at b3
  have H3 := frac_any zb w.heap.size 0 B2 0 true A B w2 (HZ.out.below HB2.out hzl) (HN.out.below b4) b3 hA hB hB0
  rw [hg, Nat.div_one, Nat.div_one, sgT_pos hA0] at H3
  have H3 := Lib.hid H3
  clear b1 b2 b3 b4 H2
  go_wp2_with fail
  refine H3.out.mono ?_
  rintro e w3 ⟨rfl, hp⟩
  have HP := Lib.hid (RPut.pre HB2.out hp)
  clear hp
  go_wp2_with fail
  go_ret
  exact ⟨rfl, HP.out⟩
set_option maxHeartbeats 1600000 in
theorem rsub_any (zb xb yb : Nat) (A B : Nat) (w : World) (hz : Box w zb 4) (hx : RA w xb false A B) (hy : RA w yb false A B) (hA0 : 0 < A) (hB0 : 0 < B) (hg : Nat.gcd A B = 1) (hAB : A * B < 18446744073709551616) (hBB : B * B < 18446744073709551616) :
    Calls Try.prog 36 #[.pointer (some ⟨zb, 0, none⟩), .pointer (some ⟨xb, 0, none⟩), .pointer (some ⟨yb, 0, none⟩)] w fun e w' => e = .returned (.pointer (some ⟨zb, 0, none⟩)) ∧ ∃ C D, RPut w w' zb false C D ∧ C = 0 := by
  have HZ := Lib.hid hz
  have hzl := hz.lt
  have HX := Lib.hid hx
  have hyl := hy.lt
  have hA : A < 18446744073709551616 := Nat.lt_of_le_of_lt (Nat.le_mul_of_pos_right A hB0) hAB
  have hB : B < 18446744073709551616 := Nat.lt_of_le_of_lt (Nat.le_mul_of_pos_right B hB0) hBB
  have hb0 := (Below.refl w.heap.size w).alloc (Nat.le_refl _) (.cells #[.bool false, .slice none 0 0, .bool false, .slice none 0 0] 49)
  have HB0 := Lib.hid hb0
  have HP0 := Lib.hid (Box.new4 w 49)
  have H1 := Lib.hid (rneg_any w.heap.size yb A B _ HP0.out (hy.below hb0) (by omega) hA hB hA0 hB0 hg)
  have hdd : dn B = B := if_neg (by omega)
  clear hz hx hy hb0
  go_enter Try.func36, Try.ntmps36
  go_wp2_with fail
  refine H1.out.mono ?_
  rintro e w1 ⟨rfl, hp⟩
  have HN := Lib.hid hp.ra
  have HB1 := Lib.hid (HB0.out.trans (hp.below (Nat.le_refl _) HB0.out.size))
  have H2 := radd_any zb xb w.heap.size true A B A B 0 w1 (HZ.out.below HB1.out hzl) (HX.out.below HB1.out) HN.out hA hB hA hB (.inr ⟨rfl, rfl, by rw [hdd]; exact Nat.mul_pos hA0 hB0, rfl⟩) (by decide) (by rw [hdd]; exact hBB) (by rw [hdd]; exact hAB) (by rw [hdd]; exact hAB)
  rw [Nat.zero_div] at H2
  have H2 := Lib.hid H2
  clear hp H1
  go_wp2_with fail
  refine H2.out.mono ?_
  rintro e w2 ⟨rfl, hp⟩
  have HP := Lib.hid (RPut.pre HB1.out hp)
  clear hp
  go_wp2_with fail
  go_ret
  exact ⟨rfl, 0, _, HP.out, rfl⟩
theorem rsign_zero (xb D : Nat) (w : World) (hx : RA w xb false 0 D) :
    Calls Try.prog 37 #[.pointer (some ⟨xb, 0, none⟩)] w fun e w' => e = .returned (.int .i64 0) ∧ w' = w := by
  have H1 := Lib.hid (sign_any xb 0 false 0 w hx.2.1)
  rw [show sgnI false 0 = 0 from rfl] at H1
  go_enter Try.func37, Try.ntmps37
  go_wp2_with fail
  refine H1.out.mono ?_
  rintro e w1 ⟨rfl, rfl⟩
  go_wp2_with fail
  go_ret
  exact ⟨rfl, rfl⟩
theorem rcmp_same (xb yb : Nat) (A B : Nat) (w : World) (hx : RA w xb false A B) (hy : RA w yb false A B) (hA0 : 0 < A) (hB0 : 0 < B) (hg : Nat.gcd A B = 1) (hAB : A * B < 18446744073709551616) (hBB : B * B < 18446744073709551616) :
    Calls Try.prog 25 #[.pointer (some ⟨xb, 0, none⟩), .pointer (some ⟨yb, 0, none⟩)] w fun e w' => e = .returned (.int .i64 0) ∧ Below w.heap.size w w' := by
  have hb0 := (Below.refl w.heap.size w).alloc (Nat.le_refl _) (.cells #[.bool false, .slice none 0 0, .bool false, .slice none 0 0] 49)
  have HB0 := Lib.hid hb0
  have H1 := Lib.hid (rsub_any w.heap.size xb yb A B _ (Box.new4 w 49) (hx.below hb0) (hy.below hb0) hA0 hB0 hg hAB hBB)
  clear hx hy hb0
  go_enter Try.func25, Try.ntmps25
  go_wp2_with fail
  refine H1.out.mono ?_
  rintro e w1 ⟨rfl, C, D, hp, rfl⟩
  have HB1 := Lib.hid (HB0.out.trans (hp.below (Nat.le_refl _) HB0.out.size))
  have H2 := Lib.hid (rsign_zero w.heap.size D w1 hp.ra)
  clear hp H1
  go_wp2_with fail
  refine H2.out.mono ?_
  rintro e w2 ⟨rfl, rfl⟩
  go_wp2_with fail
  go_ret
  exact ⟨rfl, HB1.out⟩
end Go.Proofs.Ytidnmdfpnmahpaa.Big
