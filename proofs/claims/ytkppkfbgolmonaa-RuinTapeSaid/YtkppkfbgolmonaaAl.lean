/- Walk of alive18. No condition. -/
import Derived.Test.YtkppkfbgolmonaaPlay
import Derived.Test.YtkppkfbgolmonaaBits
import Derived.Test.YtkppkfbgolmonaaWell
set_option linter.unusedSimpArgs false
set_option linter.unusedVariables false
namespace Go.Proofs.Ytkppkfbgolmonaa
open Go.RowKit
theorem ok3 (win lose top : Nat) (h : 1 ≤ win ∧ 1 ≤ lose ∧ win ≤ 9 ∧ lose ≤ 9 ∧ 1 ≤ top ∧ top ≤ 16) : Ok3 win lose top := by unfold Ok3; omega
theorem c1 (w : World) : Calls Try.prog 9 #[.int .i64 1, .int .i64 2, .int .i64 3, .int .i64 1] w fun e w' => e = .returned (.tuple #[.agg #[.int .i64 1, .int .i64 7], .int .i64 0]) ∧ Below w.heap.size w w' := by
  have h := well_ok 1 2 3 1 (ok3 _ _ _ (by omega)) (by omega) w
  rwa [show wellN 1 2 3 1 = (1, 7) by decide +kernel] at h
theorem c2 (w : World) : Calls Try.prog 9 #[.int .i64 2, .int .i64 2, .int .i64 4, .int .i64 1] w fun e w' => e = .returned (.tuple #[.agg #[.int .i64 1, .int .i64 4], .int .i64 0]) ∧ Below w.heap.size w w' := by
  have h := well_ok 2 2 4 1 (ok3 _ _ _ (by omega)) (by omega) w
  rwa [show wellN 2 2 4 1 = (1, 4) by decide +kernel] at h
theorem c3 (w : World) : Calls Try.prog 14 #[.int .i64 4, .int .i64 1] w fun e w' => e = .returned (.tuple #[.int .i64 3, .int .i64 0]) ∧ w = w' := fair_ok 4 1 (by omega) (by omega) (by omega) w
theorem c4 (w : World) : Calls Try.prog 13 #[.int .i64 6, .int .i64 3] w fun e w' => Below w.heap.size w w' ∧ ∃ v, e = .returned v ∧ RdB w' v [true, true, false] := by
  have h := bits_any 6 3 (by omega) (by omega) w
  rwa [show tabB 3 (bitf 6 3) = [true, true, false] by decide +kernel] at h
theorem c5 (v : Value) (w : World) (h : RdB w v [true, true, false]) : Calls Try.prog 12 #[.int .i64 3, .int .i64 1, v] w fun e w' => e = .returned (.tuple #[.int .i64 3, .int .i64 2, .int .i64 0]) ∧ w = w' := by
  refine (play_any 3 1 v _ w h).mono ?_
  have hok : OkP 3 1 := by unfold OkP; omega
  rintro e w' ⟨rfl, ⟨_, n, hn, hb, he, rfl⟩ | ⟨_, hb, _⟩ | ⟨hno, _⟩⟩
  · have h2 : n = 2 := by
      have : n ≤ 3 := hn
      rcases (show n = 0 ∨ n = 1 ∨ n = 2 ∨ n = 3 by omega) with rfl | rfl | rfl | rfl
      · exact absurd he (by decide)
      · exact absurd he (by decide)
      · rfl
      · exact absurd (show pos 3 [true, true, false] 2 = 3 ∨ True from .inr trivial) (fun _ => (hb 2 (by omega)).2 (by decide))
    subst h2
    exact ⟨rfl, rfl⟩
  · exact absurd (show pos 1 [true, true, false] 2 = 3 by decide) (hb 2 (by decide)).2
  · exact absurd hok hno
theorem kept {w w1 : World} {b : Nat} {o : Obj} (h : w.heap[b]? = some o) (hb : Below w.heap.size w w1) : w1.heap[b]? = some o := by
  rw [hb.block b (lt_of_block h)]; exact h
theorem pair_alloc {w1 : World} {h : Nat} {x y : Value} {t : TypeId} (hk : w1.heap[h]? = some (.cells #[x, y] t)) :
    ∀ o : Obj, (w1.alloc o).cell? ⟨h, 0, none⟩ = some x ∧ (w1.alloc o).cell? ⟨h, 1, none⟩ = some y := fun o =>
  ⟨(World.cell?_alloc_past _ _ _ (lt_of_block hk)).trans (pair_cells hk).1, (World.cell?_alloc_past _ _ _ (lt_of_block hk)).trans (pair_cells hk).2.1⟩
theorem made2 (w : World) (x y x' y' : Value) (t : TypeId) : (((w.alloc (.cells #[x, y] t)).setCell ⟨w.heap.size, 0, none⟩ x').setCell ⟨w.heap.size, 1, none⟩ y').heap[w.heap.size]? = some (.cells #[x', y'] t) := by
  have h1 := heap_alloc_new w (.cells #[x, y] t)
  have h2 := heap_at_setCell (j := 0) (u := x') h1
  have h3 := heap_at_setCell (j := 1) (u := y') h2
  simpa using h3
theorem made2_below (w : World) (x y x' y' : Value) (t : TypeId) : Below w.heap.size w (((w.alloc (.cells #[x, y] t)).setCell ⟨w.heap.size, 0, none⟩ x').setCell ⟨w.heap.size, 1, none⟩ y') :=
  (((Below.refl _ _).alloc (Nat.le_refl _) _).setCell (Nat.le_refl _) _).setCell (Nat.le_refl _) _
set_option maxHeartbeats 1600000 in
theorem alive_any (w : World) : Calls Try.prog 8 #[] w fun e w' => e = .returned (.bool true) ∧ Below w.heap.size w w' := by
  go_enter Try.func8, Try.ntmps8
  go_wp2_with fail
  refine (c1 _).mono ?_
  rintro e w1 ⟨rfl, h1⟩
  go_wp2_with fail
  refine (c2 _).mono ?_
  rintro e w2 ⟨rfl, h2⟩
  have k1 := heap_kept h2
  have B2 := h1.trans (((Below.refl w1.heap.size w1).alloc (Nat.le_refl _) _ |>.trans (h2.mono (by simp))).mono h1.size)
  clear h1 h2
  go_wp2_with fail
  refine (c3 _).mono ?_
  rintro e w3 ⟨rfl, rfl⟩
  go_wp2_with fail
  refine (c4 _).mono ?_
  rintro e w3 ⟨h3, v3, rfl, r3⟩
  have k2 := heap_kept h3
  have b3 := (Below.refl w2.heap.size w2).alloc (Nat.le_refl _) (.cells #[.int .i64 1, .int .i64 4] 24) |>.trans (h3.mono (by simp))
  have k1' := kept k1 b3
  have B3 := Lib.hid (B2.trans (b3.mono B2.size))
  clear h3 b3 B2 k1
  go_wp2_with fail
  refine (c5 _ _ r3).mono ?_
  rintro e w4 ⟨rfl, rfl⟩
  obtain ⟨a0, a1, _, _⟩ := pair_cells k1'
  obtain ⟨b0, b1, _, _⟩ := pair_cells k2
  clear k1' k2 r3
  generalize w1.heap.size = g1 at *
  generalize w2.heap.size = g2 at *
  go_wp2_with fail
  go_ret
  exact ⟨rfl, B3.out⟩
end Go.Proofs.Ytkppkfbgolmonaa
