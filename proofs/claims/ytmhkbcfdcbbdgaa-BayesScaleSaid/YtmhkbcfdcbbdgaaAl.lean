/- The test ahead of each law answers true. No condition. -/
import Derived.Test.YtmhkbcfdcbbdgaaAl0
import Derived.Test.YtmhkbcfdcbbdgaaEqual
set_option linter.unusedSimpArgs false
set_option linter.unusedVariables false
namespace Go.Proofs.Ytmhkbcfdcbbdgaa
open Go.RowKit
theorem RdM.built2 (w : World) (v1 v2 : Value) (r1 r2 : List Int) (e : TypeId) (h1 : Rd w v1 r1) (h2 : Rd w v2 r2) : RdM (w.alloc (.cells #[v1, v2] e)) (.slice (some ⟨w.heap.size, 0, none⟩) 2 2) [r1, r2] := by
  refine RdM.mk rfl (Nat.le_refl _) (by decide) fun _ => ⟨w.heap.size, 0, fun i => if i = 0 then v1 else v2, rfl, by simp, fun i hi => ?_⟩
  rw [Nat.zero_add, cell_of_row _ _ _ _ _ _ (heap_alloc_new w _)]
  rcases i with _ | _ | i
  · exact ⟨rfl, h1.alloc _⟩
  · exact ⟨rfl, h2.alloc _⟩
  · omega
def pre (w : World) : World := ((((w.alloc (.cells #[.int .i64 1, .int .i64 1] 3)).alloc (.cells #[.int .i64 1, .int .i64 3] 3)).alloc (.cells #[.int .i64 2, .int .i64 2] 3)).alloc (.cells #[.slice (some ⟨w.heap.size + 1, 0, none⟩) 2 2, .slice (some ⟨w.heap.size + 1 + 1, 0, none⟩) 2 2] 22))
theorem prep (w : World) : (pre w).heap.size = w.heap.size + 1 + 1 + 1 + 1 ∧ Rd (pre w) (.slice (some ⟨w.heap.size, 0, none⟩) 2 2) [1, 1] ∧ RdM (pre w) (.slice (some ⟨w.heap.size + 1 + 1 + 1, 0, none⟩) 2 2) m0 ∧ Below w.heap.size w (pre w) := by
  have h1 := Rd.built w [1, 1] #[.int .i64 1, .int .i64 1] 3 rfl 2 rfl (by decide)
  have h2 := Rd.built (w.alloc (.cells #[.int .i64 1, .int .i64 1] 3)) [1, 3] #[.int .i64 1, .int .i64 3] 3 rfl 2 rfl (by decide)
  have h3 := Rd.built ((w.alloc (.cells #[.int .i64 1, .int .i64 1] 3)).alloc (.cells #[.int .i64 1, .int .i64 3] 3)) [2, 2] #[.int .i64 2, .int .i64 2] 3 rfl 2 rfl (by decide)
  have s1 : (w.alloc (.cells #[.int .i64 1, .int .i64 1] 3)).heap.size = w.heap.size + 1 := by simp
  have s2 : ((w.alloc (.cells #[.int .i64 1, .int .i64 1] 3)).alloc (.cells #[.int .i64 1, .int .i64 3] 3)).heap.size = w.heap.size + 1 + 1 := by simp
  have s3 : (((w.alloc (.cells #[.int .i64 1, .int .i64 1] 3)).alloc (.cells #[.int .i64 1, .int .i64 3] 3)).alloc (.cells #[.int .i64 2, .int .i64 2] 3)).heap.size = w.heap.size + 1 + 1 + 1 := by simp
  rw [s1] at h2
  rw [s2] at h3
  have h4 := RdM.built2 (((w.alloc (.cells #[.int .i64 1, .int .i64 1] 3)).alloc (.cells #[.int .i64 1, .int .i64 3] 3)).alloc (.cells #[.int .i64 2, .int .i64 2] 3)) _ _ _ _ 22 (h2.alloc _) h3
  rw [s3] at h4
  refine ⟨by unfold pre; simp, ?_, h4, ?_⟩
  · exact ((h1.alloc _).alloc _).alloc _
  · exact ((((Below.refl _ _).alloc (Nat.le_refl _) _).alloc (by simp) _).alloc (by simp; omega) _).alloc (by simp; omega) _
theorem c1 (w : World) : Calls Try.prog 9 #[.slice (some ⟨w.heap.size, 0, none⟩) 2 2, .slice (some ⟨w.heap.size + 1 + 1 + 1, 0, none⟩) 2 2, .slice (some ⟨w.heap.size + 1 + 1 + 1 + 1, 0, none⟩) 2 2] ((pre w).alloc (.cells #[.int .i64 1, .int .i64 1] 3)) fun e w' =>
    Below w.heap.size w w' ∧ ∃ u, e = .returned (.tuple #[u, .int .i64 0]) ∧ Rd w' u [9, 4] := by
  obtain ⟨h1, h2, h3, h4⟩ := prep w
  have h5 := Rd.built (pre w) [1, 1] #[.int .i64 1, .int .i64 1] 3 rfl 2 rfl (by decide)
  rw [h1] at h5
  refine (see_any _ _ _ _ _ _ _ (h2.alloc _) (h3.alloc _) h5).mono ?_
  rintro e w' ⟨hb, hp⟩
  obtain ⟨u, rfl, hu⟩ := hp.2 e11
  rw [show ([1, 1] : List Int).length = 2 from rfl, t11] at hu
  exact ⟨(h4.alloc (by rw [h1]; omega) _).trans (hb.mono (by simp [h1]; omega)), u, rfl, hu⟩
theorem c2 (w : World) : Calls Try.prog 16 #[.slice (some ⟨w.heap.size, 0, none⟩) 2 2, .slice (some ⟨w.heap.size + 1 + 1 + 1, 0, none⟩) 2 2, .slice none 0 0] (pre w) fun e w' =>
    Below w.heap.size w w' ∧ ∃ u, e = .returned (.tuple #[u, .int .i64 0]) ∧ Rd w' u [3, 5] := by
  obtain ⟨h1, h2, h3, h4⟩ := prep w
  refine (next_one _ _ _ _ h2 h3 (Rd.nil _)).mono ?_
  rintro e w' ⟨hb, hp⟩
  exact ⟨h4.trans (hb.mono (by rw [h1]; omega)), hp⟩
theorem c3 (w : World) : Calls Try.prog 17 #[.slice (some ⟨w.heap.size, 0, none⟩) 2 2, .slice (some ⟨w.heap.size + 1 + 1 + 1, 0, none⟩) 2 2, .slice (some ⟨w.heap.size + 1 + 1 + 1 + 1, 0, none⟩) 1 1] ((pre w).alloc (.cells #[.int .i64 0] 3)) fun e w' =>
    Below w.heap.size w w' ∧ e = .returned (.tuple #[.int .i64 1, .int .i64 0]) := by
  obtain ⟨h1, h2, h3, h4⟩ := prep w
  have h5 := Rd.built (pre w) [0] #[.int .i64 0] 3 rfl 1 rfl (by decide)
  rw [h1] at h5
  refine (best_one _ _ _ _ (h2.alloc _) (h3.alloc _) h5).mono ?_
  rintro e w' ⟨hb, hp⟩
  exact ⟨(h4.alloc (by rw [h1]; omega) _).trans (hb.mono (by simp [h1]; omega)), hp⟩
set_option maxHeartbeats 1600000 in
theorem alive_any (w : World) : Calls Try.prog 8 #[] w fun e w' => e = .returned (.bool true) ∧ Below w.heap.size w w' := by
  go_enter Try.func8, Try.ntmps8
  go_wp2_with fail
  refine (c1 w).mono ?_
  rintro e w1 ⟨h1, v1, rfl, r1⟩
  have H1 := Lib.hid h1
  have R1 := Lib.hid r1
  clear h1 r1
  go_wp2_with fail
  refine (c2 w1).mono ?_
  rintro e w2 ⟨h2, v2, rfl, r2⟩
  have H2 := Lib.hid (H1.out.trans (h2.mono H1.out.size))
  have R12 := Lib.hid (R1.out.below h2 (Nat.le_refl _))
  have R2 := Lib.hid r2
  clear h2 r2 R1 H1
  go_wp2_with fail
  refine (c3 w2).mono ?_
  rintro e w3 ⟨h3, rfl⟩
  have H3 := Lib.hid (H2.out.trans (h3.mono H2.out.size))
  have R13 := Lib.hid (R12.out.below h3 (Nat.le_refl _))
  have R23 := Lib.hid (R2.out.below h3 (Nat.le_refl _))
  clear h3 R12 R2 H2
  go_wp2_with fail
  refine (equal_any _ _ [9, 4] [9, 4] _ (R13.out.alloc _) (Rd.built w3 [9, 4] _ _ rfl 2 rfl (by decide))).mono ?_
  rintro e w4 ⟨rfl, h4⟩
  have b4 := (Below.refl w3.heap.size w3).alloc (Nat.le_refl _) _ |>.trans (h4.mono (by simp))
  have H4 := Lib.hid (H3.out.trans (b4.mono H3.out.size))
  have R24 := Lib.hid (R23.out.below b4 (Nat.le_refl _))
  clear h4 b4 R23 H3 R13
  go_wp2_with fail
  refine (equal_any _ _ [3, 5] [3, 5] _ (R24.out.alloc _) (Rd.built w4 [3, 5] _ _ rfl 2 rfl (by decide))).mono ?_
  rintro e w5 ⟨rfl, h5⟩
  have b5 := (Below.refl w4.heap.size w4).alloc (Nat.le_refl _) _ |>.trans (h5.mono (by simp))
  have H5 := Lib.hid (H4.out.trans (b5.mono H4.out.size))
  clear h5 b5 R24 H4
  go_wp2_with fail
  go_ret
  exact ⟨by simp, H5.out⟩
end Go.Proofs.Ytmhkbcfdcbbdgaa
