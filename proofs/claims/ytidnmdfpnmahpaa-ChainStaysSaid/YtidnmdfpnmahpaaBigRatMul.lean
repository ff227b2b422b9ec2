/- NewRat, (*Rat).Mul: what they leave. Condition: nothing below nought, all below 2^64. -/
import Derived.Test.YtidnmdfpnmahpaaBigRat
set_option linter.unusedSimpArgs false
set_option linter.unusedVariables false
set_option maxRecDepth 20000
namespace Go.Proofs.Ytidnmdfpnmahpaa.Big
open Go.RowKit
theorem sgT_false (N : Nat) : sgT false N = false := by unfold sgT; split <;> rfl
theorem RA.new (w : World) (t : TypeId) : RA (w.alloc (.cells #[.bool false, .slice none 0 0, .bool false, .slice none 0 0] t)) w.heap.size false 0 0 :=
  ⟨Box.new4 w t, NA.new4 w t 0 (.inl rfl), NA.new4 w t 2 (.inr rfl)⟩
theorem dn_pos (B : Nat) : 0 < dn B := by unfold dn; split <;> omega
theorem Fresh.open {w w' : World} {e : Ending} {ng : Bool} {N : Nat} (h : Fresh w w' e ng N) : ∃ B, e = .returned (.pointer (some ⟨B, 0, none⟩)) ∧ w.heap.size ≤ B ∧ Box w' B 2 ∧ NA w' B 0 ng N ∧ Below w.heap.size w w' := h
theorem newrat_any (X Y : Nat) (w : World) (hX : X < 9223372036854775808) (hY : Y < 9223372036854775808) (h0 : 0 < Y) :
    Calls Try.prog 24 #[.int .i64 (X : Int), .int .i64 (Y : Int)] w fun e w' => RFresh w w' e false (X / Nat.gcd X Y) (Y / Nat.gcd X Y) := by
  have HR := Lib.hid (RA.new w 49)
  have H1 := Lib.hid (newint_any X (w.alloc (.cells #[.bool false, .slice none 0 0, .bool false, .slice none 0 0] 49)) hX)
  have HB0 := Lib.hid ((Below.refl w.heap.size w).alloc (Nat.le_refl _) (.cells #[.bool false, .slice none 0 0, .bool false, .slice none 0 0] 49))
  go_enter Try.func24, Try.ntmps24
  go_wp2_with fail
  refine H1.out.mono ?_
  rintro e w1 ⟨B1, rfl, a1, a2, a3, a4⟩
  have HA1 := Lib.hid a3
  have HR1 := Lib.hid (HR.out.below a4)
  have HB1 := Lib.hid (HB0.out.trans (a4.mono HB0.out.size))
  have H2 := Lib.hid (newint_any Y w1 hY)
  clear a1 a2 a3 a4 H1 HR
  go_wp2_with fail
  refine H2.out.mono ?_
  rintro e w2 ⟨B2, rfl, b1, b2, b3, b4⟩
  have HR2 := Lib.hid (HR1.out.below b4)
  have HB2 := Lib.hid (HB1.out.trans (b4.mono HB1.out.size))
  have H3 := Lib.hid (frac_any w.heap.size B1 0 B2 0 false X Y w2 HR2.out.1 (HA1.out.below b4) b3 (by omega) (by omega) h0)
  clear b1 b2 b3 b4 H2
  go_wp2_with fail
  refine H3.out.mono ?_
  rintro e w3 ⟨rfl, hp⟩
  have HP := Lib.hid hp
  clear hp
  go_wp2_with fail
  go_ret
  have hp := HP.out
  rw [sgT_false] at hp
  exact ⟨_, rfl, Nat.le_refl _, hp.ra, HB2.out.trans (hp.below (Nat.le_refl _) HB2.out.size)⟩
set_option maxHeartbeats 3200000 in
theorem rmul_any (zb xb yb : Nat) (A B C D : Nat) (w : World) (hz : Box w zb 4) (hx : RA w xb false A B) (hy : RA w yb false C D) (hA : A < 18446744073709551616) (hB : B < 18446744073709551616) (hC : C < 18446744073709551616) (hD : D < 18446744073709551616) (hAC : A * C < 18446744073709551616) (hBD : dn B * dn D < 18446744073709551616) :
    Calls Try.prog 23 #[.pointer (some ⟨zb, 0, none⟩), .pointer (some ⟨xb, 0, none⟩), .pointer (some ⟨yb, 0, none⟩)] w fun e w' => e = .returned (.pointer (some ⟨zb, 0, none⟩)) ∧ RPut w w' zb false (A * C / Nat.gcd (A * C) (dn B * dn D)) (dn B * dn D / Nat.gcd (A * C) (dn B * dn D)) := by
  have HZ := Lib.hid hz
  have hzl := hz.lt
  have HX := Lib.hid hx
  have HY := Lib.hid hy
  have hb0 := (Below.refl w.heap.size w).alloc (Nat.le_refl _) (.cells #[.bool false, .slice none 0 0] 46)
  have HB0 := Lib.hid hb0
  have hdB : dn B < 18446744073709551616 := by unfold dn; split <;> omega
  have hdD : dn D < 18446744073709551616 := by unfold dn; split <;> omega
  have hpos : 0 < dn B * dn D := Nat.mul_pos (dn_pos _) (dn_pos _)
  have HP0 := Lib.hid (Box.new w 46)
  have H1 := Lib.hid (num_any xb false A B _ (hx.below hb0) hA)
  clear hz hx hy hb0
  go_enter Try.func23, Try.ntmps23
  go_wp2_with fail
  refine H1.out.mono ?_
  rintro e w1 ⟨B1, rfl, a1, a2, a3, a4⟩
  have HA1 := Lib.hid a3
  have HP1 := Lib.hid (HP0.out.below a4 HP0.out.lt)
  have HB1 := Lib.hid (HB0.out.trans (a4.mono HB0.out.size))
  have hl1 := HB0.out.size
  have hs1 := HP0.out.lt
  have H2 := Lib.hid (num_any yb false C D w1 (HY.out.below HB1.out) hC)
  clear a2 a3 a4 H1 HP0
  go_wp2_with fail
  refine H2.out.mono ?_
  rintro e w2 ⟨B2, rfl, b1, b2, b3, b4⟩
  have HP2 := Lib.hid (HP1.out.below b4 HP1.out.lt)
  have HB2 := Lib.hid (HB1.out.trans (b4.mono HB1.out.size))
  have H3 := Lib.hid (mul_any w.heap.size 0 2 B1 0 B2 0 false false A C w2 HP2.out (by decide) (HA1.out.below b4) b3 (by omega) (by omega))
  clear b1 b2 b3 b4 H2
  go_wp2_with fail
  refine H3.out.mono ?_
  rintro e w3 ⟨rfl, hp⟩
  have h3 := hp.at HP2.out (by decide)
  rw [show sgT (false != false) (A * C) = false from sgT_false _] at h3
  have HA3 := Lib.hid h3
  have HB3 := Lib.hid (HB2.out.trans (hp.below (Nat.le_refl _) HB2.out.size))
  have hb4 := (Below.refl w3.heap.size w3).alloc (Nat.le_refl _) (.cells #[.bool false, .slice none 0 0] 46)
  have HB4 := Lib.hid hb4
  have HQ0 := Lib.hid (Box.new w3 46)
  have hq0 := HQ0.out.lt
  have hl3 := HA3.out.lt
  have H4 := Lib.hid (denom_any xb false A B _ ((HX.out.below HB3.out).below hb4) hB)
  clear hp h3 hb4 H3 HP1 HP2
  go_wp2_with fail
  refine H4.out.mono ?_
  rintro e w5 ⟨B5, rfl, c1, c2, c3, c4⟩
  have HA5 := Lib.hid c3
  have HQ5 := Lib.hid (HQ0.out.below c4 HQ0.out.lt)
  have HB5 := Lib.hid (HB4.out.trans (c4.mono HB4.out.size))
  have hBB5 : Below w.heap.size w w5 := HB3.out.trans (HB5.out.mono HB3.out.size)
  have H5 := Lib.hid (denom_any yb false C D w5 (HY.out.below hBB5) hD)
  clear c2 c3 c4 H4 hBB5
  go_wp2_with fail
  refine H5.out.mono ?_
  rintro e w6 ⟨B6, rfl, d1, d2, d3, d4⟩
  have HQ6 := Lib.hid (HQ5.out.below d4 HQ5.out.lt)
  have HB6 := Lib.hid (HB5.out.trans (d4.mono HB5.out.size))
  have H6 := Lib.hid (mul_any w3.heap.size 0 2 B5 0 B6 0 false false (dn B) (dn D) w6 HQ6.out (by decide) (HA5.out.below d4) d3 (by omega) (by omega))
  clear d1 d2 d3 d4 H5
  go_wp2_with fail
  refine H6.out.mono ?_
  rintro e w7 ⟨rfl, hp⟩
  have h7 := hp.at HQ6.out (by decide)
  rw [show sgT (false != false) (dn B * dn D) = false from sgT_false _] at h7
  have HB7 := Lib.hid (HB6.out.trans (hp.below (Nat.le_refl _) HB6.out.size))
  have HBW := Lib.hid (HB3.out.trans (HB7.out.mono HB3.out.size))
  have H7 := Lib.hid (frac_any zb w.heap.size 0 w3.heap.size 0 false (A * C) (dn B * dn D) w7 (HZ.out.below HBW.out hzl) (HA3.out.below HB7.out) h7 hAC hBD hpos)
  clear hp h7 H6
  go_wp2_with fail
  refine H7.out.mono ?_
  rintro e w8 ⟨rfl, hp⟩
  have HP := Lib.hid hp
  clear hp
  go_wp2_with fail
  go_ret
  have hp := HP.out
  rw [sgT_false] at hp
  exact ⟨rfl, RPut.pre HBW.out hp⟩
end Go.Proofs.Ytidnmdfpnmahpaa.Big
