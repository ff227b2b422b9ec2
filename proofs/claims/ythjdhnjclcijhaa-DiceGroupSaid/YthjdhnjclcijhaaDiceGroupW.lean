/- The walk of DiceGroup. No condition. -/
import Derived.Test.YthjdhnjclcijhaaAl
import Derived.Test.YthjdhnjclcijhaaGroup
set_option linter.unusedSimpArgs false
set_option linter.unusedVariables false
namespace Go.Proofs.Ythjdhnjclcijhaa.diceGroup
open Go.RowKit Go.Proofs.Ythjdhnjclcijhaa

theorem ok_sumL (v v2 : Value) (xs ys : List Int) (w : World) (h : Rd w v xs) (h2 : Rd w v2 ys) (hr : RightL xs ∧ RightL ys) (hs : RightL (sumL xs ys)) :
    Calls Try.prog 9 #[v, v2] w fun e w' => ∃ u, e = .returned (.tuple #[u, .int .i64 0]) ∧ Rd w' u (sumL xs ys) ∧ Below w.heap.size w w' := by
  refine (sum_any v v2 xs ys w h h2).mono ?_
  rintro e w' ⟨hb, ⟨_, _, _, u, hu, he⟩ | ⟨_, _, h, _⟩ | ⟨h, _⟩⟩
  · exact ⟨u, he, hu, hb⟩
  · exact absurd hs h
  · exact absurd hr h
theorem full_sumL (v v2 : Value) (xs ys : List Int) (w : World) (h : Rd w v xs) (h2 : Rd w v2 ys) (hr : RightL xs ∧ RightL ys) (hs : ¬ RightL (sumL xs ys)) :
    Calls Try.prog 9 #[v, v2] w fun e w' => e = .returned (.tuple #[.slice none 0 0, .int .i64 4]) ∧ Below w.heap.size w w' := by
  refine (sum_any v v2 xs ys w h h2).mono ?_
  rintro e w' ⟨hb, ⟨_, _, h, _⟩ | ⟨_, _, _, he⟩ | ⟨h, _⟩⟩
  · exact absurd h hs
  · exact ⟨he, hb⟩
  · exact absurd hr h
theorem bad_sumL (v v2 : Value) (xs ys : List Int) (w : World) (h : Rd w v xs) (h2 : Rd w v2 ys) (hr : ¬ (RightL xs ∧ RightL ys)) :
    Calls Try.prog 9 #[v, v2] w fun e w' => e = .returned (.tuple #[.slice none 0 0, .int .i64 1]) ∧ Below w.heap.size w w' := by
  refine (sum_any v v2 xs ys w h h2).mono ?_
  rintro e w' ⟨hb, ⟨h, h', _⟩ | ⟨h, h', _⟩ | ⟨_, he⟩⟩
  · exact absurd ⟨h, h'⟩ hr
  · exact absurd ⟨h, h'⟩ hr
  · exact ⟨he, hb⟩
theorem any_sumL (v v2 : Value) (xs ys : List Int) (w : World) (h : Rd w v xs) (h2 : Rd w v2 ys) :
    Calls Try.prog 9 #[v, v2] w fun e w' => ∃ (u : Value) (c : Int), e = .returned (.tuple #[u, .int .i64 c]) ∧ Below w.heap.size w w' := by
  refine (sum_any v v2 xs ys w h h2).mono ?_
  rintro e w' ⟨hb, ⟨_, _, _, u, _, he⟩ | ⟨_, _, _, he⟩ | ⟨_, he⟩⟩
  · exact ⟨u, 0, he, hb⟩
  · exact ⟨_, 4, he, hb⟩
  · exact ⟨_, 1, he, hb⟩

theorem ok_mostL (v v2 : Value) (xs ys : List Int) (w : World) (h : Rd w v xs) (h2 : Rd w v2 ys) (hr : RightL xs ∧ RightL ys) (hs : RightL (mostL xs ys)) :
    Calls Try.prog 10 #[v, v2] w fun e w' => ∃ u, e = .returned (.tuple #[u, .int .i64 0]) ∧ Rd w' u (mostL xs ys) ∧ Below w.heap.size w w' := by
  refine (most_any v v2 xs ys w h h2).mono ?_
  rintro e w' ⟨hb, ⟨_, _, _, u, hu, he⟩ | ⟨_, _, h, _⟩ | ⟨h, _⟩⟩
  · exact ⟨u, he, hu, hb⟩
  · exact absurd hs h
  · exact absurd hr h
theorem full_mostL (v v2 : Value) (xs ys : List Int) (w : World) (h : Rd w v xs) (h2 : Rd w v2 ys) (hr : RightL xs ∧ RightL ys) (hs : ¬ RightL (mostL xs ys)) :
    Calls Try.prog 10 #[v, v2] w fun e w' => e = .returned (.tuple #[.slice none 0 0, .int .i64 4]) ∧ Below w.heap.size w w' := by
  refine (most_any v v2 xs ys w h h2).mono ?_
  rintro e w' ⟨hb, ⟨_, _, h, _⟩ | ⟨_, _, _, he⟩ | ⟨h, _⟩⟩
  · exact absurd h hs
  · exact ⟨he, hb⟩
  · exact absurd hr h
theorem bad_mostL (v v2 : Value) (xs ys : List Int) (w : World) (h : Rd w v xs) (h2 : Rd w v2 ys) (hr : ¬ (RightL xs ∧ RightL ys)) :
    Calls Try.prog 10 #[v, v2] w fun e w' => e = .returned (.tuple #[.slice none 0 0, .int .i64 1]) ∧ Below w.heap.size w w' := by
  refine (most_any v v2 xs ys w h h2).mono ?_
  rintro e w' ⟨hb, ⟨h, h', _⟩ | ⟨h, h', _⟩ | ⟨_, he⟩⟩
  · exact absurd ⟨h, h'⟩ hr
  · exact absurd ⟨h, h'⟩ hr
  · exact ⟨he, hb⟩
theorem any_mostL (v v2 : Value) (xs ys : List Int) (w : World) (h : Rd w v xs) (h2 : Rd w v2 ys) :
    Calls Try.prog 10 #[v, v2] w fun e w' => ∃ (u : Value) (c : Int), e = .returned (.tuple #[u, .int .i64 c]) ∧ Below w.heap.size w w' := by
  refine (most_any v v2 xs ys w h h2).mono ?_
  rintro e w' ⟨hb, ⟨_, _, _, u, _, he⟩ | ⟨_, _, _, he⟩ | ⟨_, he⟩⟩
  · exact ⟨u, 0, he, hb⟩
  · exact ⟨_, 4, he, hb⟩
  · exact ⟨_, 1, he, hb⟩

/-- The two functions, as they stand in the row that is gone through. -/
def Arr (w : World) (g : Nat) (f0 f1 : Value) : Prop := w.cell? ⟨g, 0, none⟩ = some f0 ∧ w.cell? ⟨g, 1, none⟩ = some f1
theorem arr_keep {w w1 : World} {g : Nat} {f0 f1 : Value} (h : Arr w g f0 f1) (hb : Below w.heap.size w w1) : Arr w1 g f0 f1 :=
  ⟨((bcell hb).1 _ _ (World.block_lt_of_cell? w _ h.1)).trans h.1, ((bcell hb).1 _ _ (World.block_lt_of_cell? w _ h.2)).trans h.2⟩
set_option maxRecDepth 10000 in
set_option maxHeartbeats 6400000 in
theorem walkI (v v2 v3 : Value) (xs ys zs : List Int) (w : World) (hx : Rd w v xs) (hy : Rd w v2 ys) (hz : Rd w v3 zs) :
    Calls Try.prog 3 #[v, v2, v3] w fun e w' => e = .returned (.bool true) ∧ Below w.heap.size w w' := by
  have HX := Lib.hid hx
  have HY := Lib.hid hy
  have HZ := Lib.hid hz
  clear hx hy hz
  go_enter Try.func3, Try.ntmps3
  go_wp2_with fail
  refine (alive_any _).mono ?_
  rintro e w1 ⟨rfl, hb1⟩
  have HB1 := Lib.hid hb1
  clear hb1
  go_wp2_with fail
  have HA := Lib.hid (show Arr (w1.alloc (.cells #[.func (Fn.func 9) #[] #[], .func (Fn.func 10) #[] #[]] 24)) w1.heap.size (.func (Fn.func 9) #[] #[]) (.func (Fn.func 10) #[] #[]) from
    ⟨cell_of_row _ _ 0 _ _ _ (heap_alloc_new w1 _), cell_of_row _ _ 1 _ _ _ (heap_alloc_new w1 _)⟩)
  have HBA := Lib.hid (HB1.out.alloc HB1.out.size (.cells #[.func (Fn.func 9) #[] #[], .func (Fn.func 10) #[] #[]] 24))
  go_loopw [23] (fun iv wr => ∃ i : Nat, i ≤ 2 ∧ iv = .int .i64 i ∧ Below w.heap.size w wr ∧ Arr wr w1.heap.size (.func (Fn.func 9) #[] #[]) (.func (Fn.func 10) #[] #[])) (fun iv _ => 2 - (intOf iv).toNat)
  case atStart => exact ⟨0, by omega, rfl, HBA.out, HA.out⟩
  case round =>
    clear HBA HA HB1
    generalize w1.heap.size = gA at *
    obtain ⟨i, hi, rfl, hbel, harr⟩ := hrel
    have HB0 := Lib.hid hbel
    have HA0 := Lib.hid harr
    have X0 := Lib.hid (HX.out.below hbel (Nat.le_refl _))
    have Y0 := Lib.hid (HY.out.below hbel (Nat.le_refl _))
    have Z0 := Lib.hid (HZ.out.below hbel (Nat.le_refl _))
    clear hbel harr
    rcases (show i = 0 ∨ i = 1 ∨ i = 2 by omega) with rfl | rfl | rfl
    · have c0 := HA0.out.1
      by_cases hr : RightL xs ∧ RightL ys
      · by_cases hs : RightL (sumL xs ys)
        · go_wp2_with fail
          refine (ok_sumL _ _ xs ys _ X0.out Y0.out hr hs).mono ?_
          rintro e w1 ⟨u1, rfl, hu1, hb1⟩
          have X1 := Lib.hid (X0.out.below hb1 (Nat.le_refl _)); have Y1 := Lib.hid (Y0.out.below hb1 (Nat.le_refl _)); have Z1 := Lib.hid (Z0.out.below hb1 (Nat.le_refl _))
          have U1 := Lib.hid hu1
          have B1 := Lib.hid (HB0.out.trans (hb1.mono HB0.out.size))
          have A1 := Lib.hid (arr_keep HA0.out hb1)
          clear hb1 hu1
          go_wp2_with fail
          refine (ok_sumL _ _ ys xs _ Y1.out X1.out ⟨hr.2, hr.1⟩ (by rw [sumL_comm]; exact hs)).mono ?_
          rintro e w2 ⟨u2, rfl, hu2, hb2⟩
          have X2 := Lib.hid (X1.out.below hb2 (Nat.le_refl _)); have Y2 := Lib.hid (Y1.out.below hb2 (Nat.le_refl _)); have Z2 := Lib.hid (Z1.out.below hb2 (Nat.le_refl _))
          rw [sumL_comm] at hu2
          have U12 := Lib.hid (U1.out.below hb2 (Nat.le_refl _)); have U2 := Lib.hid hu2
          have B2 := Lib.hid (B1.out.trans (hb2.mono B1.out.size))
          have A2 := Lib.hid (arr_keep A1.out hb2)
          clear hb2 hu2
          go_wp2_with fail
          refine (equal_any _ _ _ _ _ U12.out U2.out).mono ?_
          rintro e w3 ⟨rfl, hb3⟩
          have X3 := Lib.hid (X2.out.below hb3 (Nat.le_refl _)); have Y3 := Lib.hid (Y2.out.below hb3 (Nat.le_refl _)); have Z3 := Lib.hid (Z2.out.below hb3 (Nat.le_refl _)); have U13 := Lib.hid (U12.out.below hb3 (Nat.le_refl _))
          have B3 := Lib.hid (B2.out.trans (hb3.mono B2.out.size))
          have A3 := Lib.hid (arr_keep A2.out hb3)
          clear hb3
          rw [show decide (sumL xs ys = sumL xs ys) = true from decide_eq_true rfl]
          by_cases hr2 : RightL ys ∧ RightL zs
          · by_cases hs2 : RightL (sumL ys zs)
            · go_wp2_with fail
              refine (ok_sumL _ _ ys zs _ Y3.out Z3.out hr2 hs2).mono ?_
              rintro e w4 ⟨u4, rfl, hu4, hb4⟩
              have X4 := Lib.hid (X3.out.below hb4 (Nat.le_refl _)); have Z4 := Lib.hid (Z3.out.below hb4 (Nat.le_refl _)); have U14 := Lib.hid (U13.out.below hb4 (Nat.le_refl _)); have U4 := Lib.hid hu4
              have B4 := Lib.hid (B3.out.trans (hb4.mono B3.out.size))
              have A4 := Lib.hid (arr_keep A3.out hb4)
              clear hb4 hu4
              by_cases hs3 : RightL (sumL (sumL xs ys) zs)
              · go_wp2_with fail
                refine (ok_sumL _ _ _ zs _ U14.out Z4.out ⟨hs, hr2.2⟩ hs3).mono ?_
                rintro e w5 ⟨u5, rfl, hu5, hb5⟩
                have X5 := Lib.hid (X4.out.below hb5 (Nat.le_refl _)); have U45 := Lib.hid (U4.out.below hb5 (Nat.le_refl _)); have U5 := Lib.hid hu5
                have B5 := Lib.hid (B4.out.trans (hb5.mono B4.out.size))
                have A5 := Lib.hid (arr_keep A4.out hb5)
                clear hb5 hu5
                go_wp2_with fail
                refine (ok_sumL _ _ xs _ _ X5.out U45.out ⟨hr.1, hs2⟩ (by rw [← sumL_assoc]; exact hs3)).mono ?_
                rintro e w6 ⟨u6, rfl, hu6, hb6⟩
                rw [← sumL_assoc] at hu6
                have U56 := Lib.hid (U5.out.below hb6 (Nat.le_refl _)); have U6 := Lib.hid hu6
                have B6 := Lib.hid (B5.out.trans (hb6.mono B5.out.size))
                have A6 := Lib.hid (arr_keep A5.out hb6)
                clear hb6 hu6
                go_wp2_with fail
                refine (equal_any _ _ _ _ _ U56.out U6.out).mono ?_
                rintro e w7 ⟨rfl, hb7⟩
                have B7 := Lib.hid (B6.out.trans (hb7.mono B6.out.size))
                have A7 := Lib.hid (arr_keep A6.out hb7)
                clear hb7
                rw [show decide (sumL (sumL xs ys) zs = sumL (sumL xs ys) zs) = true from decide_eq_true rfl]
                go_wp2_with fail
                go_roundw
                case rel => exact ⟨1, by omega, rfl, B7.out, A7.out⟩
                case measure => simp [intOf]
              · go_wp2_with fail
                refine (full_sumL _ _ _ zs _ U14.out Z4.out ⟨hs, hr2.2⟩ hs3).mono ?_
                rintro e w5 ⟨rfl, hb5⟩
                have X5 := Lib.hid (X4.out.below hb5 (Nat.le_refl _)); have U45 := Lib.hid (U4.out.below hb5 (Nat.le_refl _))
                have B5 := Lib.hid (B4.out.trans (hb5.mono B4.out.size))
                have A5 := Lib.hid (arr_keep A4.out hb5)
                clear hb5
                go_wp2_with fail
                refine (full_sumL _ _ xs _ _ X5.out U45.out ⟨hr.1, hs2⟩ (by rw [← sumL_assoc]; exact hs3)).mono ?_
                rintro e w6 ⟨rfl, hb6⟩
                have B6 := Lib.hid (B5.out.trans (hb6.mono B5.out.size))
                have A6 := Lib.hid (arr_keep A5.out hb6)
                clear hb6
                go_wp2_with fail
                refine (equal_any _ _ [] [] _ (Rd.nil _) (Rd.nil _)).mono ?_
                rintro e w7 ⟨rfl, hb7⟩
                have B7 := Lib.hid (B6.out.trans (hb7.mono B6.out.size))
                have A7 := Lib.hid (arr_keep A6.out hb7)
                clear hb7
                go_wp2_with fail
                go_roundw
                case rel => exact ⟨1, by omega, rfl, B7.out, A7.out⟩
                case measure => simp [intOf]
            · go_wp2_with fail
              refine (full_sumL _ _ ys zs _ Y3.out Z3.out hr2 hs2).mono ?_
              rintro e w4 ⟨rfl, hb4⟩
              have B4 := Lib.hid (B3.out.trans (hb4.mono B3.out.size))
              have A4 := Lib.hid (arr_keep A3.out hb4)
              clear hb4
              go_wp2_with fail
              go_roundw
              case rel => exact ⟨1, by omega, rfl, B4.out, A4.out⟩
              case measure => simp [intOf]
          · go_wp2_with fail
            refine (bad_sumL _ _ ys zs _ Y3.out Z3.out hr2).mono ?_
            rintro e w4 ⟨rfl, hb4⟩
            have B4 := Lib.hid (B3.out.trans (hb4.mono B3.out.size))
            have A4 := Lib.hid (arr_keep A3.out hb4)
            clear hb4
            go_wp2_with fail
            go_roundw
            case rel => exact ⟨1, by omega, rfl, B4.out, A4.out⟩
            case measure => simp [intOf]
        · go_wp2_with fail
          refine (full_sumL _ _ xs ys _ X0.out Y0.out hr hs).mono ?_
          rintro e w1 ⟨rfl, hb1⟩
          have X1 := Lib.hid (X0.out.below hb1 (Nat.le_refl _)); have Y1 := Lib.hid (Y0.out.below hb1 (Nat.le_refl _)); have Z1 := Lib.hid (Z0.out.below hb1 (Nat.le_refl _))
          have B1 := Lib.hid (HB0.out.trans (hb1.mono HB0.out.size))
          have A1 := Lib.hid (arr_keep HA0.out hb1)
          clear hb1
          go_wp2_with fail
          refine (full_sumL _ _ ys xs _ Y1.out X1.out ⟨hr.2, hr.1⟩ (by rw [sumL_comm]; exact hs)).mono ?_
          rintro e w2 ⟨rfl, hb2⟩
          have Y2 := Lib.hid (Y1.out.below hb2 (Nat.le_refl _)); have Z2 := Lib.hid (Z1.out.below hb2 (Nat.le_refl _))
          have B2 := Lib.hid (B1.out.trans (hb2.mono B1.out.size))
          have A2 := Lib.hid (arr_keep A1.out hb2)
          clear hb2
          go_wp2_with fail
          refine (equal_any _ _ [] [] _ (Rd.nil _) (Rd.nil _)).mono ?_
          rintro e w3 ⟨rfl, hb3⟩
          have Y3 := Lib.hid (Y2.out.below hb3 (Nat.le_refl _)); have Z3 := Lib.hid (Z2.out.below hb3 (Nat.le_refl _))
          have B3 := Lib.hid (B2.out.trans (hb3.mono B2.out.size))
          have A3 := Lib.hid (arr_keep A2.out hb3)
          clear hb3
          go_wp2_with fail
          refine (any_sumL _ _ ys zs _ Y3.out Z3.out).mono ?_
          rintro e w4 ⟨u, c, rfl, hb4⟩
          have B4 := Lib.hid (B3.out.trans (hb4.mono B3.out.size))
          have A4 := Lib.hid (arr_keep A3.out hb4)
          clear hb4
          go_wp2_with fail
          go_roundw
          case rel => exact ⟨1, by omega, rfl, B4.out, A4.out⟩
          case measure => simp [intOf]
      · go_wp2_with fail
        refine (bad_sumL _ _ xs ys _ X0.out Y0.out hr).mono ?_
        rintro e w1 ⟨rfl, hb1⟩
        have X1 := Lib.hid (X0.out.below hb1 (Nat.le_refl _)); have Y1 := Lib.hid (Y0.out.below hb1 (Nat.le_refl _)); have Z1 := Lib.hid (Z0.out.below hb1 (Nat.le_refl _))
        have B1 := Lib.hid (HB0.out.trans (hb1.mono HB0.out.size))
        have A1 := Lib.hid (arr_keep HA0.out hb1)
        clear hb1
        go_wp2_with fail
        refine (bad_sumL _ _ ys xs _ Y1.out X1.out (fun h => hr ⟨h.2, h.1⟩)).mono ?_
        rintro e w2 ⟨rfl, hb2⟩
        have Y2 := Lib.hid (Y1.out.below hb2 (Nat.le_refl _)); have Z2 := Lib.hid (Z1.out.below hb2 (Nat.le_refl _))
        have B2 := Lib.hid (B1.out.trans (hb2.mono B1.out.size))
        have A2 := Lib.hid (arr_keep A1.out hb2)
        clear hb2
        go_wp2_with fail
        refine (equal_any _ _ [] [] _ (Rd.nil _) (Rd.nil _)).mono ?_
        rintro e w3 ⟨rfl, hb3⟩
        have Y3 := Lib.hid (Y2.out.below hb3 (Nat.le_refl _)); have Z3 := Lib.hid (Z2.out.below hb3 (Nat.le_refl _))
        have B3 := Lib.hid (B2.out.trans (hb3.mono B2.out.size))
        have A3 := Lib.hid (arr_keep A2.out hb3)
        clear hb3
        go_wp2_with fail
        refine (any_sumL _ _ ys zs _ Y3.out Z3.out).mono ?_
        rintro e w4 ⟨u, c, rfl, hb4⟩
        have B4 := Lib.hid (B3.out.trans (hb4.mono B3.out.size))
        have A4 := Lib.hid (arr_keep A3.out hb4)
        clear hb4
        go_wp2_with fail
        go_roundw
        case rel => exact ⟨1, by omega, rfl, B4.out, A4.out⟩
        case measure => simp [intOf]
    · have c0 := HA0.out.2
      by_cases hr : RightL xs ∧ RightL ys
      · by_cases hs : RightL (mostL xs ys)
        · go_wp2_with fail
          refine (ok_mostL _ _ xs ys _ X0.out Y0.out hr hs).mono ?_
          rintro e w1 ⟨u1, rfl, hu1, hb1⟩
          have X1 := Lib.hid (X0.out.below hb1 (Nat.le_refl _)); have Y1 := Lib.hid (Y0.out.below hb1 (Nat.le_refl _)); have Z1 := Lib.hid (Z0.out.below hb1 (Nat.le_refl _))
          have U1 := Lib.hid hu1
          have B1 := Lib.hid (HB0.out.trans (hb1.mono HB0.out.size))
          have A1 := Lib.hid (arr_keep HA0.out hb1)
          clear hb1 hu1
          go_wp2_with fail
          refine (ok_mostL _ _ ys xs _ Y1.out X1.out ⟨hr.2, hr.1⟩ (by rw [mostL_comm]; exact hs)).mono ?_
          rintro e w2 ⟨u2, rfl, hu2, hb2⟩
          have X2 := Lib.hid (X1.out.below hb2 (Nat.le_refl _)); have Y2 := Lib.hid (Y1.out.below hb2 (Nat.le_refl _)); have Z2 := Lib.hid (Z1.out.below hb2 (Nat.le_refl _))
          rw [mostL_comm] at hu2
          have U12 := Lib.hid (U1.out.below hb2 (Nat.le_refl _)); have U2 := Lib.hid hu2
          have B2 := Lib.hid (B1.out.trans (hb2.mono B1.out.size))
          have A2 := Lib.hid (arr_keep A1.out hb2)
          clear hb2 hu2
          go_wp2_with fail
          refine (equal_any _ _ _ _ _ U12.out U2.out).mono ?_
          rintro e w3 ⟨rfl, hb3⟩
          have X3 := Lib.hid (X2.out.below hb3 (Nat.le_refl _)); have Y3 := Lib.hid (Y2.out.below hb3 (Nat.le_refl _)); have Z3 := Lib.hid (Z2.out.below hb3 (Nat.le_refl _)); have U13 := Lib.hid (U12.out.below hb3 (Nat.le_refl _))
          have B3 := Lib.hid (B2.out.trans (hb3.mono B2.out.size))
          have A3 := Lib.hid (arr_keep A2.out hb3)
          clear hb3
          rw [show decide (mostL xs ys = mostL xs ys) = true from decide_eq_true rfl]
          by_cases hr2 : RightL ys ∧ RightL zs
          · by_cases hs2 : RightL (mostL ys zs)
            · go_wp2_with fail
              refine (ok_mostL _ _ ys zs _ Y3.out Z3.out hr2 hs2).mono ?_
              rintro e w4 ⟨u4, rfl, hu4, hb4⟩
              have X4 := Lib.hid (X3.out.below hb4 (Nat.le_refl _)); have Z4 := Lib.hid (Z3.out.below hb4 (Nat.le_refl _)); have U14 := Lib.hid (U13.out.below hb4 (Nat.le_refl _)); have U4 := Lib.hid hu4
              have B4 := Lib.hid (B3.out.trans (hb4.mono B3.out.size))
              have A4 := Lib.hid (arr_keep A3.out hb4)
              clear hb4 hu4
              by_cases hs3 : RightL (mostL (mostL xs ys) zs)
              · go_wp2_with fail
                refine (ok_mostL _ _ _ zs _ U14.out Z4.out ⟨hs, hr2.2⟩ hs3).mono ?_
                rintro e w5 ⟨u5, rfl, hu5, hb5⟩
                have X5 := Lib.hid (X4.out.below hb5 (Nat.le_refl _)); have U45 := Lib.hid (U4.out.below hb5 (Nat.le_refl _)); have U5 := Lib.hid hu5
                have B5 := Lib.hid (B4.out.trans (hb5.mono B4.out.size))
                have A5 := Lib.hid (arr_keep A4.out hb5)
                clear hb5 hu5
                go_wp2_with fail
                refine (ok_mostL _ _ xs _ _ X5.out U45.out ⟨hr.1, hs2⟩ (by rw [← mostL_assoc]; exact hs3)).mono ?_
                rintro e w6 ⟨u6, rfl, hu6, hb6⟩
                rw [← mostL_assoc] at hu6
                have U56 := Lib.hid (U5.out.below hb6 (Nat.le_refl _)); have U6 := Lib.hid hu6
                have B6 := Lib.hid (B5.out.trans (hb6.mono B5.out.size))
                have A6 := Lib.hid (arr_keep A5.out hb6)
                clear hb6 hu6
                go_wp2_with fail
                refine (equal_any _ _ _ _ _ U56.out U6.out).mono ?_
                rintro e w7 ⟨rfl, hb7⟩
                have B7 := Lib.hid (B6.out.trans (hb7.mono B6.out.size))
                have A7 := Lib.hid (arr_keep A6.out hb7)
                clear hb7
                rw [show decide (mostL (mostL xs ys) zs = mostL (mostL xs ys) zs) = true from decide_eq_true rfl]
                go_wp2_with fail
                go_roundw
                case rel => exact ⟨2, by omega, rfl, B7.out, A7.out⟩
                case measure => simp [intOf]
              · go_wp2_with fail
                refine (full_mostL _ _ _ zs _ U14.out Z4.out ⟨hs, hr2.2⟩ hs3).mono ?_
                rintro e w5 ⟨rfl, hb5⟩
                have X5 := Lib.hid (X4.out.below hb5 (Nat.le_refl _)); have U45 := Lib.hid (U4.out.below hb5 (Nat.le_refl _))
                have B5 := Lib.hid (B4.out.trans (hb5.mono B4.out.size))
                have A5 := Lib.hid (arr_keep A4.out hb5)
                clear hb5
                go_wp2_with fail
                refine (full_mostL _ _ xs _ _ X5.out U45.out ⟨hr.1, hs2⟩ (by rw [← mostL_assoc]; exact hs3)).mono ?_
                rintro e w6 ⟨rfl, hb6⟩
                have B6 := Lib.hid (B5.out.trans (hb6.mono B5.out.size))
                have A6 := Lib.hid (arr_keep A5.out hb6)
                clear hb6
                go_wp2_with fail
                refine (equal_any _ _ [] [] _ (Rd.nil _) (Rd.nil _)).mono ?_
                rintro e w7 ⟨rfl, hb7⟩
                have B7 := Lib.hid (B6.out.trans (hb7.mono B6.out.size))
                have A7 := Lib.hid (arr_keep A6.out hb7)
                clear hb7
                go_wp2_with fail
                go_roundw
                case rel => exact ⟨2, by omega, rfl, B7.out, A7.out⟩
                case measure => simp [intOf]
            · go_wp2_with fail
              refine (full_mostL _ _ ys zs _ Y3.out Z3.out hr2 hs2).mono ?_
              rintro e w4 ⟨rfl, hb4⟩
              have B4 := Lib.hid (B3.out.trans (hb4.mono B3.out.size))
              have A4 := Lib.hid (arr_keep A3.out hb4)
              clear hb4
              go_wp2_with fail
              go_roundw
              case rel => exact ⟨2, by omega, rfl, B4.out, A4.out⟩
              case measure => simp [intOf]
          · go_wp2_with fail
            refine (bad_mostL _ _ ys zs _ Y3.out Z3.out hr2).mono ?_
            rintro e w4 ⟨rfl, hb4⟩
            have B4 := Lib.hid (B3.out.trans (hb4.mono B3.out.size))
            have A4 := Lib.hid (arr_keep A3.out hb4)
            clear hb4
            go_wp2_with fail
            go_roundw
            case rel => exact ⟨2, by omega, rfl, B4.out, A4.out⟩
            case measure => simp [intOf]
        · go_wp2_with fail
          refine (full_mostL _ _ xs ys _ X0.out Y0.out hr hs).mono ?_
          rintro e w1 ⟨rfl, hb1⟩
          have X1 := Lib.hid (X0.out.below hb1 (Nat.le_refl _)); have Y1 := Lib.hid (Y0.out.below hb1 (Nat.le_refl _)); have Z1 := Lib.hid (Z0.out.below hb1 (Nat.le_refl _))
          have B1 := Lib.hid (HB0.out.trans (hb1.mono HB0.out.size))
          have A1 := Lib.hid (arr_keep HA0.out hb1)
          clear hb1
          go_wp2_with fail
          refine (full_mostL _ _ ys xs _ Y1.out X1.out ⟨hr.2, hr.1⟩ (by rw [mostL_comm]; exact hs)).mono ?_
          rintro e w2 ⟨rfl, hb2⟩
          have Y2 := Lib.hid (Y1.out.below hb2 (Nat.le_refl _)); have Z2 := Lib.hid (Z1.out.below hb2 (Nat.le_refl _))
          have B2 := Lib.hid (B1.out.trans (hb2.mono B1.out.size))
          have A2 := Lib.hid (arr_keep A1.out hb2)
          clear hb2
          go_wp2_with fail
          refine (equal_any _ _ [] [] _ (Rd.nil _) (Rd.nil _)).mono ?_
          rintro e w3 ⟨rfl, hb3⟩
          have Y3 := Lib.hid (Y2.out.below hb3 (Nat.le_refl _)); have Z3 := Lib.hid (Z2.out.below hb3 (Nat.le_refl _))
          have B3 := Lib.hid (B2.out.trans (hb3.mono B2.out.size))
          have A3 := Lib.hid (arr_keep A2.out hb3)
          clear hb3
          go_wp2_with fail
          refine (any_mostL _ _ ys zs _ Y3.out Z3.out).mono ?_
          rintro e w4 ⟨u, c, rfl, hb4⟩
          have B4 := Lib.hid (B3.out.trans (hb4.mono B3.out.size))
          have A4 := Lib.hid (arr_keep A3.out hb4)
          clear hb4
          go_wp2_with fail
          go_roundw
          case rel => exact ⟨2, by omega, rfl, B4.out, A4.out⟩
          case measure => simp [intOf]
      · go_wp2_with fail
        refine (bad_mostL _ _ xs ys _ X0.out Y0.out hr).mono ?_
        rintro e w1 ⟨rfl, hb1⟩
        have X1 := Lib.hid (X0.out.below hb1 (Nat.le_refl _)); have Y1 := Lib.hid (Y0.out.below hb1 (Nat.le_refl _)); have Z1 := Lib.hid (Z0.out.below hb1 (Nat.le_refl _))
        have B1 := Lib.hid (HB0.out.trans (hb1.mono HB0.out.size))
        have A1 := Lib.hid (arr_keep HA0.out hb1)
        clear hb1
        go_wp2_with fail
        refine (bad_mostL _ _ ys xs _ Y1.out X1.out (fun h => hr ⟨h.2, h.1⟩)).mono ?_
        rintro e w2 ⟨rfl, hb2⟩
        have Y2 := Lib.hid (Y1.out.below hb2 (Nat.le_refl _)); have Z2 := Lib.hid (Z1.out.below hb2 (Nat.le_refl _))
        have B2 := Lib.hid (B1.out.trans (hb2.mono B1.out.size))
        have A2 := Lib.hid (arr_keep A1.out hb2)
        clear hb2
        go_wp2_with fail
        refine (equal_any _ _ [] [] _ (Rd.nil _) (Rd.nil _)).mono ?_
        rintro e w3 ⟨rfl, hb3⟩
        have Y3 := Lib.hid (Y2.out.below hb3 (Nat.le_refl _)); have Z3 := Lib.hid (Z2.out.below hb3 (Nat.le_refl _))
        have B3 := Lib.hid (B2.out.trans (hb3.mono B2.out.size))
        have A3 := Lib.hid (arr_keep A2.out hb3)
        clear hb3
        go_wp2_with fail
        refine (any_mostL _ _ ys zs _ Y3.out Z3.out).mono ?_
        rintro e w4 ⟨u, c, rfl, hb4⟩
        have B4 := Lib.hid (B3.out.trans (hb4.mono B3.out.size))
        have A4 := Lib.hid (arr_keep A3.out hb4)
        clear hb4
        go_wp2_with fail
        go_roundw
        case rel => exact ⟨2, by omega, rfl, B4.out, A4.out⟩
        case measure => simp [intOf]
    · go_wp2_with fail
      go_ret
      exact ⟨rfl, HB0.out⟩
theorem walk (a : Option Addr) (len cap : Nat) (z : List Int) (a2 : Option Addr) (len2 cap2 : Nat) (z2 : List Int) (a3 : Option Addr) (len3 cap3 : Nat) (z3 : List Int) (w : World) (h : IsRow .i64 w a len cap z) (h2 : IsRow .i64 w a2 len2 cap2 z2) (h3 : IsRow .i64 w a3 len3 cap3 z3) :
    Calls Try.prog 3 #[.slice a len cap, .slice a2 len2 cap2, .slice a3 len3 cap3] w fun e w' => e = .returned (.bool true) ∧ Below w.heap.size w w' :=
  walkI _ _ _ _ _ _ w h.rd.1 h2.rd.1 h3.rd.1
end Go.Proofs.Ythjdhnjclcijhaa.diceGroup
