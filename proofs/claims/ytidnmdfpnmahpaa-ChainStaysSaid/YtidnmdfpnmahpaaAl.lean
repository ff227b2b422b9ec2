/- alive19 is true. No condition. -/
import Derived.Test.YtidnmdfpnmahpaaRest
import Derived.Test.YtidnmdfpnmahpaaGo
import Derived.Test.YtidnmdfpnmahpaaEqual
set_option linter.unusedSimpArgs false
set_option linter.unusedVariables false
set_option maxRecDepth 20000
namespace Go.Proofs.Ytidnmdfpnmahpaa
open Go.RowKit
theorem good1 : Good 2 [[0, 1], [1, 2]] := ⟨rfl, by decide, by decide, by decide⟩
theorem good2 : Good 2 [[1, 0], [1, 1]] := ⟨rfl, by decide, by decide, by decide⟩
theorem rest1 : castN (restN [[0, 1], [1, 2]] 2) = [1, 3] := by decide +kernel
theorem go1 : goF [[0, 1], [1, 2]] 0 [0, 2, 0] = some [1, 1, 0] := by decide +kernel
theorem whole1 : wholeF (posM [[0, 1], [1, 2]]) 2 = true := by decide +kernel
theorem whole2 : wholeF (posM [[1, 0], [1, 1]]) 2 = false := by decide +kernel
/-- Two rows that the call lays itself. -/
theorem built2 (w : World) (a b c d : Int) :
    RdM (((w.alloc (.cells #[.int .i64 a, .int .i64 b] 3)).alloc (.cells #[.int .i64 c, .int .i64 d] 3)).alloc (.cells #[.slice (some ⟨w.heap.size, 0, none⟩) 2 2, .slice (some ⟨w.heap.size + 1, 0, none⟩) 2 2] 24)) (.slice (some ⟨w.heap.size + 1 + 1, 0, none⟩) 2 2) [[a, b], [c, d]] := by
  have r1 := Rd.built w [a, b] #[.int .i64 a, .int .i64 b] 3 rfl 2 rfl (by decide)
  have r2 := Rd.built (w.alloc (.cells #[.int .i64 a, .int .i64 b] 3)) [c, d] #[.int .i64 c, .int .i64 d] 3 rfl 2 rfl (by decide)
  rw [show (w.alloc (.cells #[.int .i64 a, .int .i64 b] 3)).heap.size = w.heap.size + 1 by simp] at r2
  have hn := heap_alloc_new ((w.alloc (.cells #[.int .i64 a, .int .i64 b] 3)).alloc (.cells #[.int .i64 c, .int .i64 d] 3)) (.cells #[.slice (some ⟨w.heap.size, 0, none⟩) 2 2, .slice (some ⟨w.heap.size + 1, 0, none⟩) 2 2] 24)
  rw [show ((w.alloc (.cells #[.int .i64 a, .int .i64 b] 3)).alloc (.cells #[.int .i64 c, .int .i64 d] 3)).heap.size = w.heap.size + 1 + 1 by simp] at hn
  refine RdM.mk rfl (Nat.le_refl _) (by decide) fun _ => ⟨_, 0, fun i => if i = 0 then .slice (some ⟨w.heap.size, 0, none⟩) 2 2 else .slice (some ⟨w.heap.size + 1, 0, none⟩) 2 2, rfl, lt_of_block hn, fun i hi => ?_⟩
  rcases (show i = 0 ∨ i = 1 by omega) with rfl | rfl
  · exact ⟨cell_of_row _ _ 0 _ _ _ hn, (r1.alloc _).alloc _⟩
  · exact ⟨cell_of_row _ _ 1 _ _ _ hn, r2.alloc _⟩
theorem below3 (w : World) (o1 o2 o3 : Obj) : Below w.heap.size w (((w.alloc o1).alloc o2).alloc o3) := (((Below.refl _ _).alloc (Nat.le_refl _) _).alloc (by simp) _).alloc (by simp; omega) _
theorem al_rest (w : World) : Calls Try.prog 9 #[.slice (some ⟨w.heap.size + 1 + 1, 0, none⟩) 2 2] (((w.alloc (.cells #[.int .i64 0, .int .i64 1] 3)).alloc (.cells #[.int .i64 1, .int .i64 2] 3)).alloc (.cells #[.slice (some ⟨w.heap.size, 0, none⟩) 2 2, .slice (some ⟨w.heap.size + 1, 0, none⟩) 2 2] 24)) fun e w' => Below w.heap.size w w' ∧ ∃ g cap, e = .returned (.tuple #[.slice (some ⟨g, 0, none⟩) 2 cap, .int .i64 0]) ∧ Rd w' (.slice (some ⟨g, 0, none⟩) 2 cap) [1, 3] := by
  refine (rest_run _ 2 2 _ _ (built2 w 0 1 1 2) good1 whole1).mono ?_
  rintro e w' ⟨hb, g, cap, rfl, hr⟩
  rw [rest1] at hr
  exact ⟨(below3 w _ _ _).trans (hb.mono (below3 w _ _ _).size), g, cap, rfl, hr⟩
theorem al_go (w : World) : Calls Try.prog 13 #[.slice (some ⟨w.heap.size + 1 + 1, 0, none⟩) 2 2, .int .i64 0, .slice (some ⟨w.heap.size + 1 + 1 + 1, 0, none⟩) 3 3] ((((w.alloc (.cells #[.int .i64 0, .int .i64 1] 3)).alloc (.cells #[.int .i64 1, .int .i64 2] 3)).alloc (.cells #[.slice (some ⟨w.heap.size, 0, none⟩) 2 2, .slice (some ⟨w.heap.size + 1, 0, none⟩) 2 2] 24)).alloc (.cells #[.int .i64 0, .int .i64 2, .int .i64 0] 3)) fun e w' => Below w.heap.size w w' ∧ ∃ a c, e = .returned (.tuple #[.slice a 3 c, .int .i64 0]) ∧ Rd w' (.slice a 3 c) [1, 1, 0] := by
  have h1 := (built2 w 0 1 1 2).alloc (.cells #[.int .i64 0, .int .i64 2, .int .i64 0] 3)
  have h2 := Rd.built (((w.alloc (.cells #[.int .i64 0, .int .i64 1] 3)).alloc (.cells #[.int .i64 1, .int .i64 2] 3)).alloc (.cells #[.slice (some ⟨w.heap.size, 0, none⟩) 2 2, .slice (some ⟨w.heap.size + 1, 0, none⟩) 2 2] 24)) [0, 2, 0] #[.int .i64 0, .int .i64 2, .int .i64 0] 3 rfl 3 rfl (by decide)
  rw [show (((w.alloc (.cells #[.int .i64 0, .int .i64 1] 3)).alloc (.cells #[.int .i64 1, .int .i64 2] 3)).alloc (.cells #[.slice (some ⟨w.heap.size, 0, none⟩) 2 2, .slice (some ⟨w.heap.size + 1, 0, none⟩) 2 2] 24)).heap.size = w.heap.size + 1 + 1 + 1 by simp] at h2
  have hb0 : Below w.heap.size w ((((w.alloc (.cells #[.int .i64 0, .int .i64 1] 3)).alloc (.cells #[.int .i64 1, .int .i64 2] 3)).alloc (.cells #[.slice (some ⟨w.heap.size, 0, none⟩) 2 2, .slice (some ⟨w.heap.size + 1, 0, none⟩) 2 2] 24)).alloc (.cells #[.int .i64 0, .int .i64 2, .int .i64 0] 3)) := (below3 w _ _ _).alloc (below3 w _ _ _).size _
  refine (go_run _ _ 2 2 3 3 0 _ [0, 2, 0] _ h1 h2 good1 (by decide) (by decide)).mono ?_
  rintro e w' ⟨hb, hp⟩
  rw [go1] at hp
  obtain ⟨a, c, rfl, hr, -⟩ := hp
  exact ⟨hb0.trans (hb.mono hb0.size), a, c, rfl, hr⟩
theorem al_whole (w : World) : Calls Try.prog 18 #[.slice (some ⟨w.heap.size + 1 + 1, 0, none⟩) 2 2] (((w.alloc (.cells #[.int .i64 1, .int .i64 0] 3)).alloc (.cells #[.int .i64 1, .int .i64 1] 3)).alloc (.cells #[.slice (some ⟨w.heap.size, 0, none⟩) 2 2, .slice (some ⟨w.heap.size + 1, 0, none⟩) 2 2] 24)) fun e w' => e = .returned (.tuple #[.bool false, .int .i64 0]) ∧ Below w.heap.size w w' := by
  refine (whole_run _ 2 2 _ _ (built2 w 1 0 1 1) good2).mono ?_
  rintro e w' ⟨rfl, hb⟩
  rw [whole2]
  exact ⟨rfl, (below3 w _ _ _).trans (hb.mono (below3 w _ _ _).size)⟩
set_option maxHeartbeats 1600000 in
set_option maxRecDepth 20000 in
theorem alive_any (w : World) : Calls Try.prog 8 #[] w fun e w' => e = .returned (.bool true) ∧ Below w.heap.size w w' := by
  go_enter Try.func8, Try.ntmps8
  go_wp2_with fail
  refine (al_rest w).mono ?_
  rintro e w1 ⟨hb1, g, cap, rfl, hr1⟩
  have HB1 := Lib.hid hb1
  have HR1 := Lib.hid hr1
  clear hb1 hr1
  go_wp2_with fail
  refine (al_go w1).mono ?_
  rintro e w2 ⟨hb2, a2, c2, rfl, hr2⟩
  have HB2 := Lib.hid (HB1.out.trans (hb2.mono HB1.out.size))
  have HR12 := Lib.hid (HR1.out.below hb2 (Nat.le_refl _))
  have HR2 := Lib.hid hr2
  clear hb2 hr2
  go_wp2_with fail
  refine (al_whole w2).mono ?_
  rintro e w3 ⟨rfl, hb3⟩
  have HB3 := Lib.hid (HB2.out.trans (hb3.mono HB2.out.size))
  have HR13 := Lib.hid (HR12.out.below hb3 (Nat.le_refl _))
  have HR23 := Lib.hid (HR2.out.below hb3 (Nat.le_refl _))
  clear hb3
  go_wp2_with fail
  have E4 : Rd (w3.alloc (.cells #[.int .i64 1, .int .i64 3] 3)) (.slice (some ⟨w3.heap.size, 0, none⟩) 2 2) [1, 3] := Rd.built w3 [1, 3] _ 3 rfl 2 rfl (by decide)
  refine (equal_any _ _ _ _ _ (HR13.out.alloc _) E4).mono ?_
  rintro e w4 ⟨rfl, hb4⟩
  rw [decide_eq_true (rfl : ([1, 3] : List Int) = [1, 3])]
  have HB3' := Lib.hid (HB3.out.alloc HB3.out.size (.cells #[.int .i64 1, .int .i64 3] 3))
  have HB4 := Lib.hid (HB3'.out.trans (hb4.mono HB3'.out.size))
  have HR24 := Lib.hid ((HR23.out.alloc (.cells #[.int .i64 1, .int .i64 3] 3)).below hb4 (Nat.le_refl _))
  clear hb4 E4
  go_wp2_with fail
  have E5 : Rd (w4.alloc (.cells #[.int .i64 1, .int .i64 1, .int .i64 0] 3)) (.slice (some ⟨w4.heap.size, 0, none⟩) 3 3) [1, 1, 0] := Rd.built w4 [1, 1, 0] _ 3 rfl 3 rfl (by decide)
  refine (equal_any _ _ _ _ _ (HR24.out.alloc _) E5).mono ?_
  rintro e w5 ⟨rfl, hb5⟩
  rw [decide_eq_true (rfl : ([1, 1, 0] : List Int) = [1, 1, 0])]
  have HB4' := Lib.hid (HB4.out.alloc HB4.out.size (.cells #[.int .i64 1, .int .i64 1, .int .i64 0] 3))
  have HB5 := Lib.hid (HB4'.out.trans (hb5.mono HB4'.out.size))
  clear hb5 E5
  go_wp2_with fail
  go_ret
  exact ⟨rfl, HB5.out⟩
end Go.Proofs.Ytidnmdfpnmahpaa
