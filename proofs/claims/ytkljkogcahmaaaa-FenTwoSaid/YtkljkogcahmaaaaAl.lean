/- alive9 answers true. No condition. -/
import Derived.Test.YtkljkogcahmaaaaDraw
import Derived.Test.YtkljkogcahmaaaaEqual
set_option linter.unusedSimpArgs false
set_option linter.unusedVariables false
namespace Go.Proofs.Ytkljkogcahmaaaa
open Go.RowKit
theorem ok203 : OkL [2, 0, 3] := by decide
theorem c1 (w : World) (v : Value) (h : Rd w v [2, 0, 3]) : Calls Try.prog 8 #[v] w fun e w' => Below w.heap.size w w' ∧ ∃ u, e = .returned (.tuple #[u, .int .i64 0]) ∧ Rd w' u [0, 2, 2, 5] := by
  have := sums_ok v [2, 0, 3] w h ok203
  rwa [show sumsL [2, 0, 3] = [0, 2, 2, 5] by decide +kernel] at this
theorem c2 (w : World) (v : Value) (h : Rd w v [2, 0, 3]) : Calls Try.prog 9 #[v, .int .i64 2] w fun e w' => e = .returned (.tuple #[.int .i64 2, .int .i64 0]) ∧ Below w.heap.size w w' :=
  pick_at v [2, 0, 3] 2 2 w h ok203 (by decide) (by constructor <;> decide +kernel)
theorem c3 (w : World) (v v2 : Value) (h : Rd w v [2, 0, 3]) (h2 : Rd w v2 [2, 1]) : Calls Try.prog 11 #[v, v2] w fun e w' => Below w.heap.size w w' ∧ ∃ u, e = .returned (.tuple #[u, .int .i64 0]) ∧ Rd w' u [2, 0] := by
  have := draw_ok v v2 [2, 0, 3] [2, 1] w h h2 ok203 (by decide)
  unfold DrawPost at this
  rwa [show drw [(2 : Int), 0, 3].length (nd [2, 0, 3]) [2, 1] = some [2, 0] by decide +kernel] at this
set_option maxHeartbeats 1600000 in
theorem alive_any (w : World) : Calls Try.prog 7 #[] w fun e w' => e = .returned (.bool true) ∧ Below w.heap.size w w' := by
  go_enter Try.func7, Try.ntmps7
  go_wp2_with fail
  refine (c1 _ _ (Rd.built w [2, 0, 3] _ _ rfl 3 rfl (by decide))).mono ?_
  rintro e w1 ⟨h1, v1, rfl, r1⟩
  have b1 := (Below.refl w.heap.size w).alloc (Nat.le_refl _) _ |>.trans (h1.mono (by simp))
  have H1 := Lib.hid b1
  have R1 := Lib.hid r1
  clear h1 r1 b1
  go_wp2_with fail
  refine (c2 _ _ (Rd.built w1 [2, 0, 3] _ _ rfl 3 rfl (by decide))).mono ?_
  rintro e w2 ⟨rfl, h2⟩
  have b2 := (Below.refl w1.heap.size w1).alloc (Nat.le_refl _) _ |>.trans (h2.mono (by simp))
  have H2 := Lib.hid (H1.out.trans (b2.mono H1.out.size))
  have R12 := Lib.hid (R1.out.below b2 (Nat.le_refl _))
  clear h2 b2 R1 H1
  go_wp2_with fail
  have q1 : Rd ((w2.alloc (Obj.cells #[Value.int IntKind.i64 2, Value.int IntKind.i64 0, Value.int IntKind.i64 3] 3)).alloc (Obj.cells #[Value.int IntKind.i64 2, Value.int IntKind.i64 1] 3)) (.slice (some ⟨w2.heap.size, 0, none⟩) 3 3) [2, 0, 3] := (Rd.built w2 [2, 0, 3] _ _ rfl 3 rfl (by decide)).alloc _
  have q2 : Rd ((w2.alloc (Obj.cells #[Value.int IntKind.i64 2, Value.int IntKind.i64 0, Value.int IntKind.i64 3] 3)).alloc (Obj.cells #[Value.int IntKind.i64 2, Value.int IntKind.i64 1] 3)) (.slice (some ⟨w2.heap.size + 1, 0, none⟩) 2 2) [2, 1] := by
    have := Rd.built (w2.alloc (Obj.cells #[Value.int IntKind.i64 2, Value.int IntKind.i64 0, Value.int IntKind.i64 3] 3)) [2, 1] #[Value.int IntKind.i64 2, Value.int IntKind.i64 1] 3 rfl 2 rfl (by decide)
    simpa using this
  refine (c3 _ _ _ q1 q2).mono ?_
  rintro e w3 ⟨h3, v3, rfl, r3⟩
  have b3 : Below w2.heap.size w2 w3 := ((Below.refl w2.heap.size w2).alloc (Nat.le_refl _) _ |>.alloc (by simp) _ |>.trans (h3.mono (by simp; omega)))
  have H3 := Lib.hid (H2.out.trans (b3.mono H2.out.size))
  have R13 := Lib.hid (R12.out.below b3 (Nat.le_refl _))
  have R3 := Lib.hid r3
  clear h3 b3 r3 q1 q2 R12 H2
  go_wp2_with fail
  refine (equal_any _ _ [0, 2, 2, 5] [0, 2, 2, 5] _ (R13.out.alloc _) (Rd.built w3 [0, 2, 2, 5] _ _ rfl 4 rfl (by decide))).mono ?_
  rintro e w4 ⟨rfl, h4⟩
  have b4 := (Below.refl w3.heap.size w3).alloc (Nat.le_refl _) _ |>.trans (h4.mono (by simp))
  have H4 := Lib.hid (H3.out.trans (b4.mono H3.out.size))
  have R34 := Lib.hid (R3.out.below b4 (Nat.le_refl _))
  clear h4 b4 R3 H3 R13
  go_wp2_with fail
  refine (equal_any _ _ [2, 0] [2, 0] _ (R34.out.alloc _) (Rd.built w4 [2, 0] _ _ rfl 2 rfl (by decide))).mono ?_
  rintro e w5 ⟨rfl, h5⟩
  have b5 := (Below.refl w4.heap.size w4).alloc (Nat.le_refl _) _ |>.trans (h5.mono (by simp))
  have H5 := Lib.hid (H4.out.trans (b5.mono H4.out.size))
  clear h5 b5 R34 H4
  go_wp2_with fail
  go_ret
  exact ⟨by simp, H5.out⟩
end Go.Proofs.Ytkljkogcahmaaaa
