/- Walk of alive20. No condition. -/
import Derived.Test.YthjdhnjclcijhaaMost
import Derived.Test.YthjdhnjclcijhaaEqual
set_option linter.unusedSimpArgs false
set_option linter.unusedVariables false
namespace Go.Proofs.Ythjdhnjclcijhaa
open Go.RowKit
theorem c1 (w : World) : Calls Try.prog 12 #[.int .i64 2] w fun e w' => Below w.heap.size w w' ∧ ∃ v, e = .returned (.tuple #[v, .int .i64 0]) ∧ Rd w' v [0, 1, 1] := by
  have h := die_ok 2 (by omega) (by omega) w
  rwa [show dieL 2 = [0, 1, 1] by decide +kernel] at h
theorem c2 (w : World) (v v2 : Value) (h : Rd w v [0, 1, 1]) (h2 : Rd w v2 [0, 1, 1]) : Calls Try.prog 9 #[v, v2] w fun e w' => Below w.heap.size w w' ∧ ∃ v, Rd w' v [0, 0, 1, 2, 1] ∧ e = .returned (.tuple #[v, .int .i64 0]) := by
  refine (sum_any v v2 _ _ w h h2).mono ?_
  have e : sumL [0, 1, 1] [0, 1, 1] = [0, 0, 1, 2, 1] := by decide +kernel
  rintro e' w' ⟨hb, h⟩
  rw [e] at h
  rcases h with ⟨_, _, _, h⟩ | ⟨_, _, h, _⟩ | ⟨h, _⟩
  · exact ⟨hb, h⟩
  · exact absurd (by decide +kernel) h
  · exact absurd (by decide +kernel) h
theorem c3 (w : World) (v v2 : Value) (h : Rd w v [0, 1, 1]) (h2 : Rd w v2 [0, 1, 1]) : Calls Try.prog 10 #[v, v2] w fun e w' => Below w.heap.size w w' ∧ ∃ v, Rd w' v [0, 1, 3] ∧ e = .returned (.tuple #[v, .int .i64 0]) := by
  refine (most_any v v2 _ _ w h h2).mono ?_
  have e : mostL [0, 1, 1] [0, 1, 1] = [0, 1, 3] := by decide +kernel
  rintro e' w' ⟨hb, h⟩
  rw [e] at h
  rcases h with ⟨_, _, _, h⟩ | ⟨_, _, h, _⟩ | ⟨h, _⟩
  · exact ⟨hb, h⟩
  · exact absurd (by decide +kernel) h
  · exact absurd (by decide +kernel) h
theorem c4 (w : World) (v v2 : Value) (h : Rd w v [0, 0, 1, 2, 1]) (h2 : Rd w v2 [0, 1, 1]) : Calls Try.prog 15 #[v, v2] w fun e w' => e = .returned (.tuple #[.int .i64 7, .int .i64 1, .int .i64 0]) ∧ w = w' := by
  have h := beats_ok v v2 _ _ w h h2 (by decide +kernel) (by decide +kernel)
  rwa [show moreT [0, 0, 1, 2, 1] [0, 1, 1] = 7 by decide +kernel, show sameT [0, 0, 1, 2, 1] [0, 1, 1] = 1 by decide +kernel] at h
set_option maxHeartbeats 1600000 in
theorem alive_any (w : World) : Calls Try.prog 8 #[] w fun e w' => e = .returned (.bool true) ∧ Below w.heap.size w w' := by
  go_enter Try.func8, Try.ntmps8
  go_wp2_with fail
  refine (c1 _).mono ?_
  rintro e w1 ⟨h1, v1, rfl, r1⟩
  have H1 := Lib.hid h1
  have R1 := Lib.hid r1
  clear h1 r1
  go_wp2_with fail
  refine (c2 _ _ _ R1.out R1.out).mono ?_
  rintro e w2 ⟨h2, v2, r2, rfl⟩
  have H2 := Lib.hid (H1.out.trans (h2.mono H1.out.size))
  have R12 := Lib.hid (R1.out.below h2 (Nat.le_refl _))
  have R2 := Lib.hid r2
  clear h2 r2 H1 R1
  go_wp2_with fail
  refine (c3 _ _ _ R12.out R12.out).mono ?_
  rintro e w3 ⟨h3, v3, r3, rfl⟩
  have H3 := Lib.hid (H2.out.trans (h3.mono H2.out.size))
  have R13 := Lib.hid (R12.out.below h3 (Nat.le_refl _))
  have R23 := Lib.hid (R2.out.below h3 (Nat.le_refl _))
  have R3 := Lib.hid r3
  clear h3 r3 H2 R12 R2
  go_wp2_with fail
  refine (c4 _ _ _ R23.out R13.out).mono ?_
  rintro e w4 ⟨rfl, rfl⟩
  go_wp2_with fail
  refine (equal_any _ _ [0, 0, 1, 2, 1] [0, 0, 1, 2, 1] _ (R23.out.alloc _) (Rd.built w3 [0, 0, 1, 2, 1] _ _ rfl 5 rfl (by decide))).mono ?_
  rintro e w5 ⟨rfl, h5⟩
  have b5 := (Below.refl w3.heap.size w3).alloc (Nat.le_refl _) _ |>.trans (h5.mono (by simp))
  have H5 := Lib.hid (H3.out.trans (b5.mono H3.out.size))
  have R35 := Lib.hid (R3.out.below b5 (Nat.le_refl _))
  clear h5 b5 R3 R23 R13 H3
  go_wp2_with fail
  refine (equal_any _ _ [0, 1, 3] [0, 1, 3] _ (R35.out.alloc _) (Rd.built w5 [0, 1, 3] _ _ rfl 3 rfl (by decide))).mono ?_
  rintro e w6 ⟨rfl, h6⟩
  have b6 := (Below.refl w5.heap.size w5).alloc (Nat.le_refl _) _ |>.trans (h6.mono (by simp))
  have H6 := Lib.hid (H5.out.trans (b6.mono H5.out.size))
  clear h6 b6 R35 H5
  go_wp2_with fail
  go_ret
  exact ⟨rfl, H6.out⟩
end Go.Proofs.Ythjdhnjclcijhaa
