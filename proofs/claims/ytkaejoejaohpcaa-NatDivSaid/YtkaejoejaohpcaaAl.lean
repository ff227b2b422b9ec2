/- alive1. No condition. -/
import Derived.Test.YtkaejoejaohpcaaFall
import Derived.Test.YtkaejoejaohpcaaDivA
import Derived.Test.YtkaejoejaohpcaaEqual
set_option linter.unusedSimpArgs false
set_option linter.unusedVariables false
namespace Go.Proofs.Ytkaejoejaohpcaa
open Go.RowKit
theorem built1 (w : World) (x : Nat) : Rd (w.alloc (.cells #[.int .u64 (x : Int)] 28)) (.slice (some ⟨w.heap.size, 0, none⟩) 1 1) (castN [x]) := Rd.built w (castN [x]) _ 28 rfl 1 rfl (by decide)
theorem built2 (w : World) (x y : Nat) : Rd (w.alloc (.cells #[.int .u64 (x : Int), .int .u64 (y : Int)] 28)) (.slice (some ⟨w.heap.size, 0, none⟩) 2 2) (castN [x, y]) := Rd.built w (castN [x, y]) _ 28 rfl 2 rfl (by decide)
theorem al_add (w : World) : Calls Try.prog 9 #[.slice (some ⟨w.heap.size, 0, none⟩) 1 1, .slice (some ⟨w.heap.size + 1, 0, none⟩) 1 1] ((w.alloc (.cells #[.int .u64 18446744073709551615] 28)).alloc (.cells #[.int .u64 1] 28)) fun e w' => Below w.heap.size w w' ∧ ∃ v, e = .returned (.tuple #[v, .int .i64 0]) ∧ Rd w' v (castN [0, 1]) := by
  have h1 := (built1 w 18446744073709551615).alloc (.cells #[.int .u64 1] 28)
  have h2 := built1 (w.alloc (.cells #[.int .u64 18446744073709551615] 28)) 1
  rw [World.size_alloc] at h2
  refine (add_run _ 1 1 [18446744073709551615] _ 1 1 [1] _ h1 h2 (by simp [Canon]) (by simp [Canon]) (by omega) (by omega)).mono ?_
  rintro e w' ⟨hb, l, hc, hv, hr⟩
  have hl : l = [0, 1] := val_inj hc (by simp [Canon]) (by rw [hv]; rfl)
  subst hl
  refine ⟨?_, ?_⟩
  · exact (((Below.refl _ _).alloc (Nat.le_refl _) _).alloc (by simp) _).trans (hb.mono (by simp; omega))
  · rcases hr with ⟨-, v, h3, h4⟩ | ⟨h3, -⟩
    · exact ⟨v, h3, h4⟩
    · simp at h3
theorem al_mul (w : World) : Calls Try.prog 8 #[.slice (some ⟨w.heap.size, 0, none⟩) 1 1, .slice (some ⟨w.heap.size + 1, 0, none⟩) 1 1] ((w.alloc (.cells #[.int .u64 18446744073709551615] 28)).alloc (.cells #[.int .u64 2] 28)) fun e w' => Below w.heap.size w w' ∧ ∃ v, e = .returned (.tuple #[v, .int .i64 0]) ∧ Rd w' v (castN [18446744073709551614, 1]) := by
  have h1 := (built1 w 18446744073709551615).alloc (.cells #[.int .u64 2] 28)
  have h2 := built1 (w.alloc (.cells #[.int .u64 18446744073709551615] 28)) 2
  rw [World.size_alloc] at h2
  refine (mul_run _ 1 1 [18446744073709551615] _ 1 1 [2] _ h1 h2 (by simp [Canon]) (by simp [Canon]) (by omega) (by omega)).mono ?_
  rintro e w' ⟨hb, l, hc, hv, hr⟩
  have hl : l = [18446744073709551614, 1] := val_inj hc (by simp [Canon]) (by rw [hv]; rfl)
  subst hl
  refine ⟨?_, ?_⟩
  · exact (((Below.refl _ _).alloc (Nat.le_refl _) _).alloc (by simp) _).trans (hb.mono (by simp; omega))
  · rcases hr with ⟨-, v, h3, h4⟩ | ⟨h3, -⟩
    · exact ⟨v, h3, h4⟩
    · simp at h3
theorem al_div (w : World) : Calls Try.prog 11 #[.slice (some ⟨w.heap.size, 0, none⟩) 2 2, .int .u64 3] (w.alloc (.cells #[.int .u64 0, .int .u64 1] 28)) fun e w' => Below w.heap.size w w' ∧ ∃ a c, e = .returned (.tuple #[.slice a 1 c, .int .u64 1, .int .i64 0]) :=
  (div_al w.heap.size _ (built2 w 0 1)).mono fun e w' ⟨hb, h⟩ => ⟨((Below.refl _ _).alloc (Nat.le_refl _) _).trans (hb.mono (by simp)), h⟩
theorem al_fall (w : World) : Calls Try.prog 13 #[.int .u64 5, .int .i64 3] w fun e w' => Below w.heap.size w w' ∧ ∃ v, e = .returned (.tuple #[v, .int .i64 0]) ∧ Rd w' v (castN [60]) := by
  refine (falling_any 5 3 w (by decide) (by decide)).mono ?_
  rintro e w' ⟨hb, a, k, c, l, rfl, hr, hc, hv, -⟩
  have hl : l = [60] := val_inj hc (by simp [Canon]) (by rw [hv]; rfl)
  subst hl
  exact ⟨hb, _, rfl, hr⟩
set_option maxHeartbeats 1600000 in
theorem alive_any (w : World) : Calls Try.prog 7 #[] w fun e w' => e = .returned (.bool true) ∧ Below w.heap.size w w' := by
  go_enter Try.func7, Try.ntmps7
  go_wp2_with fail
  refine (al_add w).mono ?_
  rintro e w1 ⟨hb1, v1, rfl, hr1⟩
  have HB1 := Lib.hid hb1
  have HR1 := Lib.hid hr1
  clear hb1 hr1
  go_wp2_with fail
  refine (al_mul w1).mono ?_
  rintro e w2 ⟨hb2, v2, rfl, hr2⟩
  have HB2 := Lib.hid (HB1.out.trans (hb2.mono HB1.out.size))
  have HR1' := Lib.hid (HR1.out.below hb2 (Nat.le_refl _))
  have HR2 := Lib.hid hr2
  clear hb2 hr2 HR1
  go_wp2_with fail
  refine (al_div w2).mono ?_
  rintro e w3 ⟨hb3, a3, c3, rfl⟩
  have HB3 := Lib.hid (HB2.out.trans (hb3.mono HB2.out.size))
  have HR13 := Lib.hid (HR1'.out.below hb3 (Nat.le_refl _))
  have HR23 := Lib.hid (HR2.out.below hb3 (Nat.le_refl _))
  clear hb3 HR2 HR1'
  go_wp2_with fail
  refine (al_fall w3).mono ?_
  rintro e w4 ⟨hb4, v4, rfl, hr4⟩
  have HB4 := Lib.hid (HB3.out.trans (hb4.mono HB3.out.size))
  have HR14 := Lib.hid (HR13.out.below hb4 (Nat.le_refl _))
  have HR24 := Lib.hid (HR23.out.below hb4 (Nat.le_refl _))
  have HR4 := Lib.hid hr4
  clear hb4 HR13 HR23 hr4
  have HE1 : Hid (Calls Try.prog 10 #[v1, .slice (some ⟨w4.heap.size, 0, none⟩) 2 2] (w4.alloc (.cells #[.int .u64 0, .int .u64 1] 28)) fun e w' => e = .returned (.bool true) ∧ Below w4.heap.size w4 w') :=
    (equal_any v1 _ _ _ _ (HR14.out.alloc _) (built2 w4 0 1)).mono fun e w' ⟨h1, h2⟩ => ⟨by rw [h1]; rfl, ((Below.refl _ _).alloc (Nat.le_refl _) _).trans (h2.mono (by simp))⟩
  go_wp2_with fail
  refine HE1.out.mono ?_
  rintro e w5 ⟨rfl, hb5⟩
  have HB5 := Lib.hid (HB4.out.trans (hb5.mono HB4.out.size))
  have HR25 := Lib.hid (HR24.out.below hb5 (Nat.le_refl _))
  have HR45 := Lib.hid (HR4.out.below hb5 (Nat.le_refl _))
  clear hb5 HE1 HR24 HR4
  have HE2 : Hid (Calls Try.prog 10 #[v2, .slice (some ⟨w5.heap.size, 0, none⟩) 2 2] (w5.alloc (.cells #[.int .u64 18446744073709551614, .int .u64 1] 28)) fun e w' => e = .returned (.bool true) ∧ Below w5.heap.size w5 w') :=
    (equal_any v2 _ _ _ _ (HR25.out.alloc _) (built2 w5 18446744073709551614 1)).mono fun e w' ⟨h1, h2⟩ => ⟨by rw [h1]; rfl, ((Below.refl _ _).alloc (Nat.le_refl _) _).trans (h2.mono (by simp))⟩
  go_wp2_with fail
  refine HE2.out.mono ?_
  rintro e w6 ⟨rfl, hb6⟩
  have HB6 := Lib.hid (HB5.out.trans (hb6.mono HB5.out.size))
  have HR46 := Lib.hid (HR45.out.below hb6 (Nat.le_refl _))
  clear hb6 HE2 HR45
  have HE3 : Hid (Calls Try.prog 10 #[v4, .slice (some ⟨w6.heap.size, 0, none⟩) 1 1] (w6.alloc (.cells #[.int .u64 60] 28)) fun e w' => e = .returned (.bool true) ∧ Below w6.heap.size w6 w') :=
    (equal_any v4 _ _ _ _ (HR46.out.alloc _) (built1 w6 60)).mono fun e w' ⟨h1, h2⟩ => ⟨by rw [h1]; rfl, ((Below.refl _ _).alloc (Nat.le_refl _) _).trans (h2.mono (by simp))⟩
  go_wp2_with fail
  refine HE3.out.mono ?_
  rintro e w7 ⟨rfl, hb7⟩
  have HB7 := Lib.hid (HB6.out.trans (hb7.mono HB6.out.size))
  clear hb7 HE3
  go_wp2_with fail
  go_ret
  exact ⟨rfl, HB7.out⟩
end Go.Proofs.Ytkaejoejaohpcaa
