/- The small check ahead of each law: it is passed. -/
import Derived.Test.YtdlnjalkbgkhdaaBoth
import Derived.Test.YtdlnjalkbgkhdaaRgt
import Derived.Test.YtdlnjalkbgkhdaaMed
set_option linter.unusedSimpArgs false
set_option linter.unusedVariables false
namespace Go.Proofs.Ytdlnjalkbgkhdaa
open Go.RowKit
theorem al_med : med [9, 1, 4, 2] = 6 := by
  unfold med
  rw [← srt_unique (l := [1, 2, 4, 9]) (by decide) (by decide)]
  rfl
theorem al_cov : cov [1, 2] [5, 9] = 4 := by decide +kernel
/-- Three in a struct, in the first block after w; they stay. -/
theorem kept3 {w1 w2 : World} {n s q : Int} (hw : w1.alloc (.cells #[.int .i64 n, .int .i64 s, .int .i64 q] 28) = w2) : ∀ w', Below w2.heap.size w2 w' → w'.cell? ⟨w1.heap.size, 0, none⟩ = some (.int .i64 n) ∧ w'.cell? ⟨w1.heap.size, 1, none⟩ = some (.int .i64 s) ∧ w'.cell? ⟨w1.heap.size, 2, none⟩ = some (.int .i64 q) := fun w' hb => by
  subst hw
  have h1 := (hb.block w1.heap.size (by simp)).trans (heap_alloc_new w1 _)
  refine ⟨?_, ?_, ?_⟩ <;> (rw [cell_of_row _ _ _ _ 28 (0, 0) h1]; rfl)
set_option maxHeartbeats 1600000 in
theorem alive_any (w : World) : Calls Try.prog 8 #[] w fun e w' => e = .returned (.bool true) ∧ Below w.heap.size w w' := by
  have HA : Hid (Calls Try.prog 10 #[.slice (some ⟨w.heap.size, 0, none⟩) 3 3] (w.alloc (.cells #[.int .i64 1, .int .i64 2, .int .i64 6] 3)) fun e w' =>
      e = .returned (.tuple #[.agg #[.int .i64 3, .int .i64 9, .int .i64 41], .int .i64 0]) ∧ Below w.heap.size w w') := by
    refine (of_good _ [1, 2, 6] _ (Rd.built w [1, 2, 6] _ 3 rfl 3 rfl (by decide)) (by decide)).mono ?_
    rintro e w' ⟨rfl, h1⟩
    exact ⟨rfl, ((Below.refl _ _).alloc (Nat.le_refl _) _).trans (h1.mono (by simp))⟩
  go_enter Try.func8, Try.ntmps8
  go_wp2_with fail
  refine HA.out.mono ?_
  rintro e w1 ⟨rfl, hb1⟩
  obtain ⟨w2, hw2⟩ : ∃ w2, w1.alloc (.cells #[.int .i64 3, .int .i64 9, .int .i64 41] 28) = w2 := ⟨_, rfl⟩
  have HB2 : Hid (Below w.heap.size w w2) := by show Below _ _ _; rw [← hw2]; exact hb1.alloc hb1.size _
  have HK := Lib.hid (kept3 hw2)
  have HSP : Hid (Calls Try.prog 11 #[.agg #[.int .i64 3, .int .i64 9, .int .i64 41]] w2 fun e w' => e = .returned (.tuple #[.int .i64 42, .int .i64 0]) ∧ Below w2.heap.size w2 w') :=
    spread_any 3 9 41 w2 (right_of (l := [1, 2, 6]) (by decide) (by decide))
  have HW2 := Lib.hid hw2
  clear hb1 HA hw2
  go_wp2_with fail
  rw [HW2.out]
  obtain ⟨B, hB⟩ : ∃ B, w1.heap.size = B := ⟨_, rfl⟩
  rw [hB] at HK ⊢
  clear HW2 hB
  obtain ⟨c0, c1, c2⟩ := HK.out w2 (Below.refl _ _)
  go_wp2_with fail
  refine HSP.out.mono ?_
  rintro e w3 ⟨rfl, hb3⟩
  have HB3 := Lib.hid (HB2.out.trans (hb3.mono HB2.out.size))
  have HX3 := Lib.hid hb3
  have HM : Hid (Calls Try.prog 12 #[.slice (some ⟨w3.heap.size, 0, none⟩) 4 4] (w3.alloc (.cells #[.int .i64 9, .int .i64 1, .int .i64 4, .int .i64 2] 3)) fun e w' =>
      e = .returned (.tuple #[.int .i64 6, .int .i64 0]) ∧ Below w3.heap.size w3 w') := by
    refine (med_any _ [9, 1, 4, 2] _ (Rd.built w3 [9, 1, 4, 2] _ 3 rfl 4 rfl (by decide)) (by decide) (by decide)).mono ?_
    rintro e w' ⟨rfl, h1⟩
    exact ⟨by rw [al_med], ((Below.refl _ _).alloc (Nat.le_refl _) _).trans (h1.mono (by simp))⟩
  clear c0 c1 c2 hb3 HSP
  go_wp2_with fail
  refine HM.out.mono ?_
  rintro e w4 ⟨rfl, hb4⟩
  have HB4 := Lib.hid (HB3.out.trans (hb4.mono HB3.out.size))
  have HX4 := Lib.hid (HX3.out.trans (hb4.mono HX3.out.size))
  obtain ⟨w5, hw5⟩ : ∃ w5, w4.alloc (.cells #[.int .i64 1, .int .i64 2] 3) = w5 := ⟨_, rfl⟩
  have HSZ : Hid (w5.heap.size = w4.heap.size + 1) := by show _ = _; rw [← hw5]; simp
  have HBO : Hid (Calls Try.prog 9 #[.slice (some ⟨w4.heap.size, 0, none⟩) 2 2, .slice (some ⟨w4.heap.size + 1, 0, none⟩) 2 2] (w5.alloc (.cells #[.int .i64 5, .int .i64 9] 3)) fun e w' =>
      e = .returned (.tuple #[.int .i64 4, .int .i64 0]) ∧ Below w4.heap.size w4 w') := by
    have h1 : Rd w5 (.slice (some ⟨w4.heap.size, 0, none⟩) 2 2) [1, 2] := by rw [← hw5]; exact Rd.built w4 [1, 2] _ 3 rfl 2 rfl (by decide)
    have h2 : Rd (w5.alloc (.cells #[.int .i64 5, .int .i64 9] 3)) (.slice (some ⟨w4.heap.size + 1, 0, none⟩) 2 2) [5, 9] := by
      have := Rd.built w5 [5, 9] _ 3 rfl 2 rfl (by decide)
      rwa [HSZ.out] at this
    have h3 : Below w5.heap.size w5 (w5.alloc (.cells #[.int .i64 5, .int .i64 9] 3)) := (Below.refl _ _).alloc (Nat.le_refl _) _
    refine (both_any _ _ [1, 2] [5, 9] _ (h1.below h3 (Nat.le_refl _)) h2 (by decide) (by decide) rfl).mono ?_
    rintro e w' ⟨rfl, h4⟩
    refine ⟨by rw [al_cov], ?_⟩
    have h5 : Below w4.heap.size w4 w5 := by rw [← hw5]; exact (Below.refl _ _).alloc (Nat.le_refl _) _
    exact (h5.trans (h3.mono h5.size)).trans (h4.mono (by rw [World.size_alloc]; have := h5.size; omega))
  have HW5 := Lib.hid hw5
  clear hb4 HM hw5
  go_wp2_with fail
  rw [HW5.out]
  refine HBO.out.mono ?_
  rintro e w6 ⟨rfl, hb6⟩
  have HB6 := Lib.hid (HB4.out.trans (hb6.mono HB4.out.size))
  obtain ⟨c0, c1, c2⟩ := HK.out w6 (HX4.out.trans (hb6.mono HX4.out.size))
  clear hb6 HBO HK HX3 HX4 HW5
  go_wp2_with fail
  go_ret
  exact ⟨rfl, HB6.out⟩
end Go.Proofs.Ytdlnjalkbgkhdaa
