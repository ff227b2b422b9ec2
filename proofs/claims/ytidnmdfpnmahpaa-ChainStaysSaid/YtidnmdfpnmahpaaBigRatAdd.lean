/- (*Rat).Add, Neg, Sub, Sign, Cmp: what they leave. Condition: nothing below nought, or the two alike. -/
import Derived.Test.YtidnmdfpnmahpaaBigRatMul
set_option linter.unusedSimpArgs false
set_option linter.unusedVariables false
set_option maxRecDepth 20000
namespace Go.Proofs.Ytidnmdfpnmahpaa.Big
open Go.RowKit
theorem sgT_pos {ng : Bool} {N : Nat} (h : 0 < N) : sgT ng N = ng := by unfold sgT; rw [if_neg (by omega)]
theorem sum_any2 {ny : Bool} {X Y S : Nat} (h : (ny = false ∧ S = X + Y) ∨ (ny = true ∧ Y = X ∧ 0 < Y ∧ S = 0)) (zb yb : Nat) (w : World) (hB : Box w zb 2) (hx : NA w zb 0 false X) (hy : NA w yb 0 (sgT ny Y) Y) (hX : X < 340282366920938463463374607431768211456) (hY : Y < 340282366920938463463374607431768211456) :
    Calls Try.prog 35 #[.pointer (some ⟨zb, 0, none⟩), .pointer (some ⟨zb, 0, none⟩), .pointer (some ⟨yb, 0, none⟩)] w fun e w' => e = .returned (.pointer (some ⟨zb, 0, none⟩)) ∧ PutN w w' zb 0 false S := by
  rcases h with ⟨rfl, rfl⟩ | ⟨rfl, rfl, h0, rfl⟩
  · rw [sgT_false] at hy
    have := add_same zb 0 2 zb 0 yb 0 false X Y w hB (by decide) hx hy hX hY
    rw [sgT_false] at this
    exact this
  · rw [sgT_pos h0] at hy
    have := add_less zb 0 2 zb 0 yb 0 false Y Y w hB (by decide) hx hy hX (Nat.le_refl _)
    rw [sgT_false, Nat.sub_self] at this
    exact this
set_option maxHeartbeats 3200000 in
theorem radd_any (zb xb yb : Nat) (ny : Bool) (A B C D S : Nat) (w : World) (hz : Box w zb 4) (hx : RA w xb false A B) (hy : RA w yb ny C D) (hA : A < 18446744073709551616) (hB : B < 18446744073709551616) (hC : C < 18446744073709551616) (hD : D < 18446744073709551616)
    (hS : (ny = false ∧ S = A * dn D + C * dn B) ∨ (ny = true ∧ C * dn B = A * dn D ∧ 0 < C * dn B ∧ S = 0)) (hS64 : S < 18446744073709551616) (hBD : dn B * dn D < 18446744073709551616) (hx1 : A * dn D < 18446744073709551616) (hx2 : C * dn B < 18446744073709551616) :
    Calls Try.prog 22 #[.pointer (some ⟨zb, 0, none⟩), .pointer (some ⟨xb, 0, none⟩), .pointer (some ⟨yb, 0, none⟩)] w fun e w' => e = .returned (.pointer (some ⟨zb, 0, none⟩)) ∧ RPut w w' zb false (S / Nat.gcd S (dn B * dn D)) (dn B * dn D / Nat.gcd S (dn B * dn D)) := by
  have HZ := Lib.hid hz
  have hzl := hz.lt
  have HX := Lib.hid hx
  have HY := Lib.hid hy
  have hb0 := (Below.refl w.heap.size w).alloc (Nat.le_refl _) (.cells #[.bool false, .slice none 0 0] 46)
  have HB0 := Lib.hid hb0
  have hdB : dn B < 18446744073709551616 := by unfold dn; split <;> omega
  have hdD : dn D < 18446744073709551616 := by unfold dn; split <;> omega
  have hpos : 0 < dn B * dn D := Nat.mul_pos (dn_pos _) (dn_pos _)
  have HP0 := Lib.hid (Box.new w 46)
  have H1 := Lib.hid (num_any xb false A B _ (hx.below hb0) hA)
  have HSUM := Lib.hid (fun zb yb w hB hx hy => sum_any2 hS zb yb w hB hx hy (by omega) (by omega))
  clear hz hx hy hb0 hS
  go_enter Try.func22, Try.ntmps22
  go_wp2_with fail
  refine H1.out.mono ?_
  rintro e w1 ⟨B1, rfl, a1, a2, a3, a4⟩
  have HA1 := Lib.hid a3
  have HP1 := Lib.hid (HP0.out.below a4 HP0.out.lt)
  have HB1 := Lib.hid (HB0.out.trans (a4.mono HB0.out.size))
  have hl1 := HB0.out.size
  have hs1 := HP0.out.lt
  have H2 := Lib.hid (denom_any yb ny C D w1 (HY.out.below HB1.out) hD)
  clear a2 a3 a4 H1 HP0
  go_wp2_with fail
  refine H2.out.mono ?_
  rintro e w2 ⟨B2, rfl, b1, b2, b3, b4⟩
  have HP2 := Lib.hid (HP1.out.below b4 HP1.out.lt)
  have HB2 := Lib.hid (HB1.out.trans (b4.mono HB1.out.size))
  have H3 := Lib.hid (mul_any w.heap.size 0 2 B1 0 B2 0 false false A (dn D) w2 HP2.out (by decide) (HA1.out.below b4) b3 (by omega) (by omega))
  clear b1 b2 b3 b4 H2
  go_wp2_with fail
  refine H3.out.mono ?_
  rintro e w3 ⟨rfl, hp⟩
  have h3 := hp.at HP2.out (by decide)
  rw [show sgT (false != false) (A * dn D) = false from sgT_false _] at h3
  have HA3 := Lib.hid h3
  have HP3 := Lib.hid (hp.box HP2.out)
  have HB3 := Lib.hid (HB2.out.trans (hp.below (Nat.le_refl _) HB2.out.size))
  have hb4 := (Below.refl w3.heap.size w3).alloc (Nat.le_refl _) (.cells #[.bool false, .slice none 0 0] 46)
  have HB4 := Lib.hid hb4
  have HQ0 := Lib.hid (Box.new w3 46)
  have hq0 := HQ0.out.lt
  have hl3 := HA3.out.lt
  have H4 := Lib.hid (num_any yb ny C D _ ((HY.out.below HB3.out).below hb4) hC)
  clear hp h3 hb4 H3 HP1 HP2
  go_wp2_with fail
  refine H4.out.mono ?_
  rintro e w5 ⟨B5, rfl, c1, c2, c3, c4⟩
  have HA5 := Lib.hid c3
  have HQ5 := Lib.hid (HQ0.out.below c4 HQ0.out.lt)
  have HB5 := Lib.hid (HB4.out.trans (c4.mono HB4.out.size))
  have hBB5 : Below w.heap.size w w5 := HB3.out.trans (HB5.out.mono HB3.out.size)
  have H5 := Lib.hid (denom_any xb false A B w5 (HX.out.below hBB5) hB)
  clear c2 c3 c4 H4 hBB5
  go_wp2_with fail
  refine H5.out.mono ?_
  rintro e w6 ⟨B6, rfl, d1, d2, d3, d4⟩
  have HQ6 := Lib.hid (HQ5.out.below d4 HQ5.out.lt)
  have HB6 := Lib.hid (HB5.out.trans (d4.mono HB5.out.size))
  have H6 := Lib.hid (mul_any w3.heap.size 0 2 B5 0 B6 0 ny false C (dn B) w6 HQ6.out (by decide) (HA5.out.below d4) d3 (by omega) (by omega))
  clear d1 d2 d3 d4 H5
  go_wp2_with fail
  refine H6.out.mono ?_
  rintro e w7 ⟨rfl, hp⟩
  have h7 := hp.at HQ6.out (by decide)
  rw [show sgT (ny != false) (C * dn B) = sgT ny (C * dn B) by cases ny <;> rfl] at h7
  have HB7 := Lib.hid (HB6.out.trans (hp.below (Nat.le_refl _) HB6.out.size))
  have HP7 := Lib.hid (HP3.out.below HB7.out hl3)
  have H7 := Lib.hid (HSUM.out w.heap.size w3.heap.size w7 HP7.out (HA3.out.below HB7.out) h7)
  clear hp h7 H6 HSUM
  go_wp2_with fail
  refine H7.out.mono ?_
  rintro e w8 ⟨rfl, hp⟩
  have HA8 := Lib.hid (hp.at HP7.out (by decide))
  have HB8 := Lib.hid ((HB3.out.trans (HB7.out.mono HB3.out.size)).trans (hp.below (Nat.le_refl _) (Nat.le_trans HB3.out.size HB7.out.size)))
  have hb9 := (Below.refl w8.heap.size w8).alloc (Nat.le_refl _) (.cells #[.bool false, .slice none 0 0] 46)
  have HB9 := Lib.hid hb9
  have HR0 := Lib.hid (Box.new w8 46)
  have hr0 := HR0.out.lt
  have hl8 := HA8.out.lt
  have H8 := Lib.hid (denom_any xb false A B _ ((HX.out.below HB8.out).below hb9) hB)
  clear hp hb9 H7 HP7 HA3
  go_wp2_with fail
  refine H8.out.mono ?_
  rintro e w10 ⟨B10, rfl, c1, c2, c3, c4⟩
  have HA10 := Lib.hid c3
  have HR10 := Lib.hid (HR0.out.below c4 HR0.out.lt)
  have HB10 := Lib.hid (HB9.out.trans (c4.mono HB9.out.size))
  have hBB10 : Below w.heap.size w w10 := HB8.out.trans (HB10.out.mono HB8.out.size)
  have H9 := Lib.hid (denom_any yb ny C D w10 (HY.out.below hBB10) hD)
  clear c2 c3 c4 H8 hBB10
  go_wp2_with fail
  refine H9.out.mono ?_
  rintro e w11 ⟨B11, rfl, d1, d2, d3, d4⟩
  have HR11 := Lib.hid (HR10.out.below d4 HR10.out.lt)
  have HB11 := Lib.hid (HB10.out.trans (d4.mono HB10.out.size))
  have H10 := Lib.hid (mul_any w8.heap.size 0 2 B10 0 B11 0 false false (dn B) (dn D) w11 HR11.out (by decide) (HA10.out.below d4) d3 (by omega) (by omega))
  clear d1 d2 d3 d4 H9
  go_wp2_with fail
  refine H10.out.mono ?_
  rintro e w12 ⟨rfl, hp⟩
  have h7 := hp.at HR11.out (by decide)
  rw [show sgT (false != false) (dn B * dn D) = false from sgT_false _] at h7
  have HB12 := Lib.hid (HB11.out.trans (hp.below (Nat.le_refl _) HB11.out.size))
  have HBW := Lib.hid (HB8.out.trans (HB12.out.mono HB8.out.size))
  have H11 := Lib.hid (frac_any zb w.heap.size 0 w8.heap.size 0 false S (dn B * dn D) w12 (HZ.out.below HBW.out hzl) (HA8.out.below HB12.out) h7 hS64 hBD hpos)
  clear hp h7 H10
  go_wp2_with fail
  refine H11.out.mono ?_
  rintro e w13 ⟨rfl, hp⟩
  have HP := Lib.hid hp
  clear hp
  go_wp2_with fail
  go_ret
  have hp := HP.out
  rw [sgT_false] at hp
  exact ⟨rfl, RPut.pre HBW.out hp⟩
end Go.Proofs.Ytidnmdfpnmahpaa.Big
