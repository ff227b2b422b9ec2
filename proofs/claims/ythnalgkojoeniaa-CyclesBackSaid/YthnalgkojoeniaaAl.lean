/- The test ahead of each law answers true. No condition. -/
import Derived.Test.YthnalgkojoeniaaFlat
import Derived.Test.YthnalgkojoeniaaEqual
set_option linter.unusedSimpArgs false
set_option linter.unusedVariables false
namespace Go.Proofs.Ythnalgkojoeniaa
open Go.RowKit
theorem d1 (w : World) (v : Value) (h : Rd w v [2, 1, 0, 4, 3]) : Calls Try.prog 11 #[v] w fun e w' => Below w.heap.size w w' ∧ ∃ g c V, e = .returned (.tuple #[.slice (some ⟨g, 0, none⟩) 3 c, .int .i64 0]) ∧ 3 ≤ c ∧ c ≤ 9223372036854775807 ∧ g < w'.heap.size ∧ w'.cell? ⟨g, 0, none⟩ = some V ∧ Rd w' V [0, 2] := by
  refine (of_ok v _ w h (by decide)).mono ?_
  rintro e w' ⟨hb, u, rfl, ho⟩
  rw [show rows (cyc (nd [2, 1, 0, 4, 3]) ([2, 1, 0, 4, 3] : List Int).length ([2, 1, 0, 4, 3] : List Int).length) = [[0, 2], [1], [3, 4]] by decide +kernel] at ho
  obtain ⟨V, h1, h2, h3⟩ := ho
  obtain ⟨g, cap, rfl, h4, h5, _, h7, h8⟩ := own_open h1 (by decide)
  exact ⟨hb, g, cap, V 0, rfl, h4, by unfold maxLen at h5; exact h5, h7, h8 0 (V 0) rfl, (h3 0 (by decide)).rd⟩
theorem d2 (w : World) (v : Value) (h : Rd w v [2, 1, 0, 4, 3]) : Calls Try.prog 20 #[v] w fun e w' => Below w.heap.size w w' ∧ ∃ u, e = .returned (.tuple #[u, .int .i64 0]) ∧ Rd w' u [1, 2, 0, 4, 3] := by
  refine (flat_ok v _ w h (by decide)).mono ?_
  rintro e w' ⟨hb, u, rfl, hu⟩
  exact ⟨hb, u, rfl, by rw [show ints (hrows (nd [2, 1, 0, 4, 3]) ([2, 1, 0, 4, 3] : List Int).length).flatten = [1, 2, 0, 4, 3] by decide +kernel] at hu; exact hu⟩
theorem d3 (w : World) (v : Value) (h : Rd w v [1, 2, 0, 4, 3]) : Calls Try.prog 12 #[v] w fun e w' => Below w.heap.size w w' ∧ e = .returned (.tuple #[.int .i64 6, .int .i64 0]) := by
  refine (times_ok v _ w h (by decide)).mono ?_
  rintro e w' ⟨hb, rfl⟩
  exact ⟨hb, by rw [show tms (nd [1, 2, 0, 4, 3]) ([1, 2, 0, 4, 3] : List Int).length = 6 by decide +kernel]; rfl⟩
theorem d4 (w : World) (v : Value) (h : Rd w v [1, 0, 2]) : Calls Try.prog 8 #[v] w fun e w' => Below w.heap.size w w' ∧ e = .returned (.tuple #[.bool true, .int .i64 0]) := by
  refine (odd_ok v _ w h (by decide)).mono ?_
  rintro e w' ⟨hb, rfl⟩
  exact ⟨hb, by rw [show par (nd [1, 0, 2]) ([1, 0, 2] : List Int).length = true by decide +kernel]⟩
set_option maxHeartbeats 1600000 in
theorem alive_any (w : World) : Calls Try.prog 7 #[] w fun e w' => e = .returned (.bool true) ∧ Below w.heap.size w w' := by
  go_enter Try.func7, Try.ntmps7
  go_wp2_with fail
  refine (d1 _ _ (Rd.built w [2, 1, 0, 4, 3] _ _ rfl 5 rfl (by decide))).mono ?_
  rintro e w1 ⟨h1, g, c, V, rfl, hc3, hcm, hg, hcell, r1⟩
  have H1 := Lib.hid ((Below.refl w.heap.size w).alloc (Nat.le_refl _) _ |>.trans (h1.mono (by simp)))
  have R1 := Lib.hid r1
  have HC := Lib.hid hcell
  clear h1 r1 hcell
  go_wp2_with fail
  refine (d2 _ _ (Rd.built w1 [2, 1, 0, 4, 3] _ _ rfl 5 rfl (by decide))).mono ?_
  rintro e w2 ⟨h2, v2, rfl, r2⟩
  have b2 := (Below.refl w1.heap.size w1).alloc (Nat.le_refl _) _ |>.trans (h2.mono (by simp))
  have H2 := Lib.hid (H1.out.trans (b2.mono H1.out.size))
  have B2 := Lib.hid b2
  have R2 := Lib.hid r2
  clear h2 b2 H1 r2
  go_wp2_with fail
  refine (d3 _ _ (Rd.built w2 [1, 2, 0, 4, 3] _ _ rfl 5 rfl (by decide))).mono ?_
  rintro e w3 ⟨h3, rfl⟩
  have b3 := (Below.refl w2.heap.size w2).alloc (Nat.le_refl _) _ |>.trans (h3.mono (by simp))
  have H3 := Lib.hid (H2.out.trans (b3.mono H2.out.size))
  have B3 := Lib.hid (B2.out.trans (b3.mono B2.out.size))
  have R3 := Lib.hid (R2.out.below b3 (Nat.le_refl _))
  clear h3 b3 H2 R2 B2
  go_wp2_with fail
  refine (d4 _ _ (Rd.built w3 [1, 0, 2] _ _ rfl 3 rfl (by decide))).mono ?_
  rintro e w4 ⟨h4, rfl⟩
  have b4 := (Below.refl w3.heap.size w3).alloc (Nat.le_refl _) _ |>.trans (h4.mono (by simp))
  have H4 := Lib.hid (H3.out.trans (b4.mono H3.out.size))
  have B4 := B3.out.trans (b4.mono B3.out.size)
  have R4 := Lib.hid (R3.out.below b4 (Nat.le_refl _))
  have R41 := Lib.hid (R1.out.below B4 (Nat.le_refl _))
  have c4 := ((bcell B4).1 g 0 hg).trans HC.out
  clear h4 b4 H3 R3 B3 R1 B4 HC
  go_wp2_with fail
  refine (equal_any _ _ [0, 2] [0, 2] _ (R41.out.alloc _) (Rd.built w4 [0, 2] _ _ rfl 2 rfl (by decide))).mono ?_
  rintro e w5 ⟨rfl, h5⟩
  have b5 := (Below.refl w4.heap.size w4).alloc (Nat.le_refl _) _ |>.trans (h5.mono (by simp))
  have H5 := Lib.hid (H4.out.trans (b5.mono H4.out.size))
  have R5 := Lib.hid (R4.out.below b5 (Nat.le_refl _))
  clear h5 b5 R4 H4 c4
  go_wp2_with fail
  refine (equal_any _ _ [1, 2, 0, 4, 3] [1, 2, 0, 4, 3] _ (R5.out.alloc _) (Rd.built w5 [1, 2, 0, 4, 3] _ _ rfl 5 rfl (by decide))).mono ?_
  rintro e w6 ⟨rfl, h6⟩
  have b6 := (Below.refl w5.heap.size w5).alloc (Nat.le_refl _) _ |>.trans (h6.mono (by simp))
  have H6 := Lib.hid (H5.out.trans (b6.mono H5.out.size))
  clear h6 b6 R5 H5
  go_wp2_with fail
  go_ret
  exact ⟨rfl, H6.out⟩
end Go.Proofs.Ythnalgkojoeniaa
