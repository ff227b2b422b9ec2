/- The test ahead of each law answers true. No condition. -/
import Derived.Test.YtambhciacmkdoaaDraw
set_option linter.unusedSimpArgs false
set_option linter.unusedVariables false
namespace Go.Proofs.Ytambhciacmkdoaa
open Go.RowKit
theorem ok132 : OkW [1, 3, 2] := by decide
theorem fin132 : (∀ i, i < 3 → (fin 3 6 (nd [1, 3, 2])).V i = [3, 6, 6].getD i 0) ∧ ∀ i, i < 3 → (fin 3 6 (nd [1, 3, 2])).T i = [1, 1, 2].getD i 0 := by decide +kernel
def V0 (i : Nat) : Nat := [3, 6, 6].getD i 0
def T0 (i : Nat) : Nat := [1, 1, 2].getD i 0
theorem d1 (w : World) (v : Value) (h : Rd w v [1, 3, 2]) : Calls Try.prog 9 #[v] w fun e w' => Below w.heap.size w w' ∧ ∃ g, e = .returned (.tuple #[.slice (some ⟨g, 0, none⟩) 3 3, .int .i64 0]) ∧ RS w' g 3 V0 T0 := by
  refine (make_ok v _ w h ok132 (by decide)).mono ?_
  rintro e w' ⟨hb, g, rfl, ho⟩
  refine ⟨hb, g, rfl, ?_⟩
  have : OS w' w.heap.size g 3 (fin 3 6 (nd [1, 3, 2])).V (fin 3 6 (nd [1, 3, 2])).T := ho
  exact (this.congr fin132.1 fin132.2).rs
theorem rs_built (w : World) (e : TypeId) : RS (w.alloc (.cells #[.int .i64 3, .int .i64 1, .int .i64 6, .int .i64 1, .int .i64 6, .int .i64 2] e)) w.heap.size 3 V0 T0 := by
  refine ⟨by simp, fun i hi => ?_⟩
  rw [cell_of_row _ _ _ _ _ _ (heap_alloc_new w _), cell_of_row _ _ _ _ _ _ (heap_alloc_new w _)]
  rcases i with _ | _ | _ | i
  · exact ⟨rfl, rfl⟩
  · exact ⟨rfl, rfl⟩
  · exact ⟨rfl, rfl⟩
  · omega
set_option maxHeartbeats 1600000 in
theorem alive_any (w : World) : Calls Try.prog 7 #[] w fun e w' => e = .returned (.bool true) ∧ Below w.heap.size w w' := by
  go_enter Try.func7, Try.ntmps7
  go_wp2_with fail
  refine (d1 _ _ (Rd.built w [1, 3, 2] _ _ rfl 3 rfl (by decide))).mono ?_
  rintro e w1 ⟨h1, g, rfl, r1⟩
  have H1 := Lib.hid ((Below.refl w.heap.size w).alloc (Nat.le_refl _) _ |>.trans (h1.mono (by simp)))
  have R1 := Lib.hid r1
  clear h1 r1
  go_wp2_with fail
  refine (draw_ok g 3 V0 T0 0 (by omega) (by omega) 3 w1 R1.out).mono ?_
  rintro e w2 ⟨rfl, rfl⟩
  rw [if_neg (show ¬ ((3 : Int) < (V0 0 : Int)) by decide), show (T0 0 : Int) = 1 from rfl]
  go_wp2_with fail
  refine (equalS g w2.heap.size 3 (by omega) V0 T0 _ (R1.out.alloc _) (rs_built w2 33)).mono ?_
  rintro e w4 ⟨rfl, h4⟩
  have b4 := (Below.refl w2.heap.size w2).alloc (Nat.le_refl _) _ |>.trans (h4.mono (by simp))
  have H4 := Lib.hid (H1.out.trans (b4.mono H1.out.size))
  clear h4 b4 R1 H1
  go_wp2_with fail
  go_ret
  exact ⟨by simp, H4.out⟩
end Go.Proofs.Ytambhciacmkdoaa
