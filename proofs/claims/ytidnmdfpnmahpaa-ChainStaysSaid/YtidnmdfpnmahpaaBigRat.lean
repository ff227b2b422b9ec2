/- (*Rat).Num, Denom, SetFrac, NewRat: what they leave. Condition: both below 2^64, what is below the line not nought. -/
import Derived.Test.YtidnmdfpnmahpaaBigGcd
set_option linter.unusedSimpArgs false
set_option linter.unusedVariables false
set_option maxRecDepth 20000
namespace Go.Proofs.Ytidnmdfpnmahpaa.Big
open Go.RowKit
/-- A fraction in box b. -/
def RA (w : World) (b : Nat) (ng : Bool) (A B : Nat) : Prop := Box w b 4 ∧ NA w b 0 ng A ∧ NA w b 2 false B
def RFresh (w w' : World) (e : Ending) (ng : Bool) (A B : Nat) : Prop := ∃ R, e = .returned (.pointer (some ⟨R, 0, none⟩)) ∧ w.heap.size ≤ R ∧ RA w' R ng A B ∧ Below w.heap.size w w'
/-- Box zb is filled; all other blocks stay. -/
structure RPut (w w' : World) (zb : Nat) (ng : Bool) (A B : Nat) : Prop where
  os : w'.os = w.os
  tape : w'.tape = w.tape
  output : w'.output = w.output
  size : w.heap.size ≤ w'.heap.size
  block : ∀ i, i < w.heap.size → i ≠ zb → w'.heap[i]? = w.heap[i]?
  ra : RA w' zb ng A B
theorem RA.below {w w' : World} {b : Nat} {ng : Bool} {A B : Nat} (h : RA w b ng A B) (hb : Below w.heap.size w w') : RA w' b ng A B :=
  ⟨h.1.below hb h.1.lt, h.2.1.below hb, h.2.2.below hb⟩
theorem RA.lt {w : World} {b : Nat} {ng : Bool} {A B : Nat} (h : RA w b ng A B) : b < w.heap.size := h.1.lt
theorem RPut.below {w w' : World} {zb C : Nat} {ng : Bool} {A B : Nat} (h : RPut w w' zb ng A B) (hb : C ≤ zb) (hC : C ≤ w.heap.size) : Below C w w' :=
  ⟨h.os, h.tape, h.output, h.size, fun i hi => h.block i (by omega) (by omega)⟩
theorem RPut.pre {w w1 w2 : World} {zb : Nat} {ng : Bool} {A B : Nat} (hb : Below w.heap.size w w1) (h : RPut w1 w2 zb ng A B) : RPut w w2 zb ng A B :=
  ⟨h.os.trans hb.os, h.tape.trans hb.tape, h.output.trans hb.output, Nat.le_trans hb.size h.size, fun i hi hne => (h.block i (Nat.lt_of_lt_of_le hi hb.size) hne).trans (hb.block i hi), h.ra⟩
def dn (B : Nat) : Nat := if B = 0 then 1 else B
theorem num_any (xb : Nat) (ng : Bool) (A B : Nat) (w : World) (h : RA w xb ng A B) (hA : A < 18446744073709551616) :
    Calls Try.prog 32 #[.pointer (some ⟨xb, 0, none⟩)] w fun e w' => Fresh w w' e ng A := by
  have HS := Lib.hid (set_any w.heap.size 0 2 xb 0 ng A (w.alloc (.cells #[.bool false, .slice none 0 0] 46)) (Box.new w 46) (by decide) (h.2.1.below ((Below.refl _ _).alloc (Nat.le_refl _) _)) (by have := h.lt; omega) (by omega))
  clear h
  go_enter Try.func32, Try.ntmps32
  go_wp2_with fail
  refine HS.out.mono ?_
  rintro e w' ⟨rfl, h2⟩
  have H2 := Lib.hid h2
  clear h2
  go_wp2_with fail
  go_ret
  exact fresh_of ⟨rfl, H2.out⟩
theorem denom_any (xb : Nat) (ng : Bool) (A B : Nat) (w : World) (h : RA w xb ng A B) (hB : B < 18446744073709551616) :
    Calls Try.prog 33 #[.pointer (some ⟨xb, 0, none⟩)] w fun e w' => Fresh w w' e false (dn B) := by
  have HSG := Lib.hid (sign_any xb 2 false B w h.2.2)
  by_cases hB0 : B = 0
  · have HN := Lib.hid (newint_any 1 w (by decide))
    have HD : Hid (dn B = 1) := if_pos hB0
    rw [show sgnI false B = 0 by unfold sgnI; rw [if_pos hB0]] at HSG
    clear h hB0
    go_enter Try.func33, Try.ntmps33
    go_wp2_with fail
    refine HSG.out.mono ?_
    rintro e w' ⟨rfl, rfl⟩
    go_wp2_with fail
    refine HN.out.mono ?_
    rintro e w' ⟨R, rfl, h2⟩
    have H2 := Lib.hid h2
    clear h2
    go_wp2_with fail
    go_ret
    rw [HD.out]
    exact ⟨R, rfl, H2.out⟩
  · have HD : Hid (dn B = B) := if_neg hB0
    rw [show sgnI false B = 1 by unfold sgnI; rw [if_neg hB0]; rfl] at HSG
    have HS := Lib.hid (set_any w.heap.size 0 2 xb 2 false B (w.alloc (.cells #[.bool false, .slice none 0 0] 46)) (Box.new w 46) (by decide) (h.2.2.below ((Below.refl _ _).alloc (Nat.le_refl _) _)) (by have := h.lt; omega) (by omega))
    clear h hB0
    go_enter Try.func33, Try.ntmps33
    go_wp2_with fail
    refine HSG.out.mono ?_
    rintro e w' ⟨rfl, rfl⟩
    go_wp2_with fail
    refine HS.out.mono ?_
    rintro e w1 ⟨rfl, h2⟩
    have H2 := Lib.hid h2
    clear h2
    go_wp2_with fail
    go_ret
    rw [HD.out]
    exact fresh_of ⟨rfl, H2.out⟩
set_option maxHeartbeats 3200000 in
theorem frac_any (zb xb xo yb yo : Nat) (nx : Bool) (X Y : Nat) (w : World) (hB : Box w zb 4) (hx : NA w xb xo nx X) (hy : NA w yb yo false Y) (hX : X < 18446744073709551616) (hY : Y < 18446744073709551616) (hY0 : 0 < Y) :
    Calls Try.prog 34 #[.pointer (some ⟨zb, 0, none⟩), .pointer (some ⟨xb, xo, none⟩), .pointer (some ⟨yb, yo, none⟩)] w fun e w' => e = .returned (.pointer (some ⟨zb, 0, none⟩)) ∧ RPut w w' zb (sgT nx (X / Nat.gcd X Y)) (X / Nat.gcd X Y) (Y / Nat.gcd X Y) := by
  have hzl := hB.lt
  have hxl := hx.lt
  have hyl := hy.lt
  have HBB := Lib.hid hB
  have HX := Lib.hid hx
  have HY := Lib.hid hy
  have hG0 : 0 < Nat.gcd X Y := Nat.gcd_pos_of_pos_right X hY0
  have hGle : Nat.gcd X Y ≤ Y := Nat.gcd_le_right X hY0
  have H1 := Lib.hid (gcd_any w.heap.size 0 2 xb xo yb yo nx false X Y (w.alloc (.cells #[.bool false, .slice none 0 0] 46)) (Box.new w 46) (by decide) (hx.below ((Below.refl _ _).alloc (Nat.le_refl _) _)) (hy.below ((Below.refl _ _).alloc (Nat.le_refl _) _)) hX hY)
  have hXG : X / Nat.gcd X Y < 18446744073709551616 := Nat.lt_of_le_of_lt (Nat.div_le_self _ _) hX
  have hYG : Y / Nat.gcd X Y < 18446744073709551616 := Nat.lt_of_le_of_lt (Nat.div_le_self _ _) hY
  have HQ : Hid (∀ (w1 : World) (ib io gb : Nat) (ni : Bool) (I : Nat), w.heap.size ≤ w1.heap.size → ib < w1.heap.size → gb < w1.heap.size → NA w1 ib io ni I → NA w1 gb 0 false (Nat.gcd X Y) → I < 18446744073709551616 → Calls Try.prog 47 #[.pointer (some ⟨w1.heap.size, 0, none⟩), .pointer (some ⟨ib, io, none⟩), .pointer (some ⟨gb, 0, none⟩)] (w1.alloc (.cells #[.bool false, .slice none 0 0] 46)) fun e w' => Fresh w1 w' e (sgT ni (I / Nat.gcd X Y)) (I / Nat.gcd X Y)) := fun w1 ib io gb ni I h1 h2 h3 h4 h5 h6 => by
    have := quo_any w1.heap.size 0 2 ib io gb 0 ni false I (Nat.gcd X Y) (w1.alloc (.cells #[.bool false, .slice none 0 0] 46)) (Box.new w1 46) (by decide) (h4.below ((Below.refl _ _).alloc (Nat.le_refl _) _)) (h5.below ((Below.refl _ _).alloc (Nat.le_refl _) _)) (by omega) (by omega) h6 (by omega) hG0
    refine this.mono fun e w' h => fresh_of ?_
    rw [show (ni != false) = ni by cases ni <;> rfl] at h
    exact h
  clear hB hx hy
  generalize Nat.gcd X Y = G at *
  go_enter Try.func34, Try.ntmps34
  go_wp2_with fail
  refine H1.out.mono ?_
  rintro e w1 hg
  obtain ⟨gb, rfl, hg1, hg2, hg3, hg4⟩ := fresh_of hg
  have HB1 := Lib.hid hg4
  have HGN := Lib.hid hg3
  have hgl := hg2.lt
  have HQ1 := Lib.hid (HQ.out w1 xb xo gb nx X hg4.size (Nat.lt_of_lt_of_le hxl hg4.size) hgl (HX.out.below hg4) hg3 hX)
  clear hg hg2 hg3 hg4 H1
  go_wp2_with fail
  refine HQ1.out.mono ?_
  rintro e w2 ⟨xi, rfl, i1, i2, i3, i4⟩
  have HB2 := Lib.hid (HB1.out.trans (i4.mono HB1.out.size))
  have HXI := Lib.hid i3
  have hxil := i2.lt
  have hs2 := i4.size
  have HQ2 := Lib.hid (HQ.out w2 yb yo gb false Y HB2.out.size (Nat.lt_of_lt_of_le hyl HB2.out.size) (by omega) (HY.out.below HB2.out) (HGN.out.below i4) hY)
  have hs1 := HB1.out.size
  clear i2 i3 i4 HQ1
  go_wp2_with fail
  refine HQ2.out.mono ?_
  rintro e w3 ⟨yi, rfl, j1, j2, j3, j4⟩
  have HB3 := Lib.hid (HB2.out.trans (j4.mono HB2.out.size))
  have HXI3 := Lib.hid (HXI.out.below j4)
  have HYI := Lib.hid j3
  obtain ⟨yv, y0, -⟩ := j3
  rw [show sgT false (Y / G) = false by unfold sgT; split <;> rfl] at y0
  have HZ3 := Lib.hid (HBB.out.below HB3.out hzl)
  have HS1 := Lib.hid (set_any zb 0 4 xi 0 (sgT nx (X / G)) (X / G) w3 HZ3.out (by decide) HXI3.out (by omega) (by omega))
  clear j2 j4 HQ2 HXI
  go_wp2_with fail
  refine HS1.out.mono ?_
  rintro e w4 ⟨rfl, hp4⟩
  have HZ4 := Lib.hid (hp4.box HZ3.out)
  have HA4 := Lib.hid (hp4.at HZ3.out (by decide))
  have HYI4 := Lib.hid (hp4.other HZ3.out HYI.out (by omega))
  have HS2 := Lib.hid (set_any zb 2 4 yi 0 (sgT false (Y / G)) (Y / G) w4 HZ4.out (by decide) HYI4.out (by omega) (by omega))
  have HP4 := Lib.hid hp4
  clear hp4 HS1
  go_wp2_with fail
  refine HS2.out.mono ?_
  rintro e w5 ⟨rfl, hp5⟩
  have HP5 := Lib.hid hp5
  have HZ5 := Lib.hid (hp5.box HZ4.out)
  have HA5 := Lib.hid (hp5.part HZ4.out HA4.out (by decide) (by decide) (by decide))
  have HB5 := Lib.hid (hp5.at HZ4.out (by decide))
  clear hp5 HS2
  go_wp2_with fail
  go_ret
  refine ⟨rfl, RPut.pre HB3.out ?_⟩
  obtain ⟨v4, p4, -⟩ := HP4.out
  obtain ⟨v5, p5, -⟩ := HP5.out
  refine ⟨p5.os.trans p4.os, p5.tape.trans p4.tape, p5.output.trans p4.output, Nat.le_trans p4.size p5.size, fun i hi hne => (p5.block i (Nat.lt_of_lt_of_le hi p4.size) hne).trans (p4.block i hi hne), HZ5.out, HA5.out, ?_⟩
  have := HB5.out
  rwa [show sgT false (Y / G) = false by unfold sgT; split <;> rfl] at this
end Go.Proofs.Ytidnmdfpnmahpaa.Big
