/- pool.Right, New, Need: what they answer. No condition. -/
import Derived.Test.YthaiopgmncnekaaGreatDoorBox
set_option linter.unusedSimpArgs false
set_option linter.unusedVariables false
set_option maxRecDepth 20000
namespace Go.Proofs.YthaiopgmncnekaaGreatDoor
open Go.RowKit
def RightP (r c : Int) (n : Nat) : Prop := 1 ≤ r ∧ r ≤ 400 ∧ 0 ≤ c ∧ c ≤ 1099511627776 ∧ (n : Int) = min r c
instance (r c : Int) (n : Nat) : Decidable (RightP r c n) := by unfold RightP; infer_instance
set_option maxHeartbeats 400000 in
theorem right_any (r c : Int) (a : Option Addr) (n cap : Nat) (w : World) : Calls Tryz.prog 31 #[.agg #[.int .i64 r, .int .i64 c, .slice a n cap]] w fun e w' => e = .returned (.bool (decide (RightP r c n))) ∧ Below w.heap.size w w' := by
  go_enter Tryz.func31, Tryz.ntmps31
  go_wp2_with fail
  all_goals
    go_ret
    refine ⟨congrArg (fun b => Ending.returned (.bool b)) ?_, (Below.refl _ _).alloc (Nat.le_refl _) _⟩
    first
      | exact (decide_eq_false (fun hh => by unfold RightP at hh; omega)).symm
      | (rw [Bool.eq_iff_iff, decide_eq_true_iff, beq_iff_eq]; unfold RightP; omega)
set_option maxHeartbeats 400000 in
/-- pool.New of a room. -/
theorem new_any (r : Int) (w : World) : Calls Tryz.prog 20 #[.int .i64 r] w fun e w' => e = .returned (if 1 ≤ r ∧ r ≤ 400 then .tuple #[.agg #[.int .i64 r, .int .i64 0, .slice none 0 0], .int .i64 0] else .tuple #[.agg #[.int .i64 0, .int .i64 0, .slice none 0 0], .int .i64 2]) ∧ Below w.heap.size w w' := by
  have HR := Lib.hid (right_any r 0 none 0 0)
  have hd : decide (RightP r 0 0) = decide (1 ≤ r ∧ r ≤ 400) := decide_eq_decide.2 ⟨fun h => ⟨h.1, h.2.1⟩, fun h => ⟨h.1, h.2, by omega, by omega, by omega⟩⟩
  rw [hd] at HR
  clear hd
  by_cases hr : 1 ≤ r ∧ r ≤ 400
  · rw [if_pos hr]
    rw [decide_eq_true hr] at HR
    clear hr
    go_enter Tryz.func20, Tryz.ntmps20
    go_wp2_with fail
    refine (HR.out _).mono ?_
    rintro e w1 ⟨rfl, hb⟩
    have HB := Lib.hid ((((Below.refl w.heap.size w).alloc (Nat.le_refl _) (.cells #[.int .i64 0, .int .i64 0, .slice none 0 0] 56)).alloc (by simp) (.cells #[.int .i64 r, .int .i64 0, .slice none 0 0] 56)).trans (hb.mono (by simp; omega)))
    have A0 : BX w1 w.heap.size 0 0 (.slice none 0 0) := BX.below (w := (w.alloc (.cells #[.int .i64 0, .int .i64 0, .slice none 0 0] 56)).alloc (.cells #[.int .i64 r, .int .i64 0, .slice none 0 0] 56)) ((BX.new w 0 0 (.slice none 0 0)).below (B := w.heap.size + 1) ((Below.refl _ _).alloc (by simp) _) (by omega)) hb (by simp; omega)
    have A1 : BX w1 (w.heap.size + 1) r 0 (.slice none 0 0) := BX.below (w := (w.alloc (.cells #[.int .i64 0, .int .i64 0, .slice none 0 0] 56)).alloc (.cells #[.int .i64 r, .int .i64 0, .slice none 0 0] 56)) (by simpa using BX.new (w.alloc (.cells #[.int .i64 0, .int .i64 0, .slice none 0 0] 56)) r 0 (.slice none 0 0)) hb (by simp)
    have HA := Lib.hid A0
    have d0 := A1.c0
    have d1 := A1.c1
    have d2 := A1.c2
    have e0 := A0.c0
    have e1 := A0.c1
    have e2 := A0.c2
    have f0 := A0.fr 0
    have f1 := A0.fr 1
    have f2 := A0.fr 2
    clear A0 A1 hb
    go_wp2_with fail
    refine bodyPost_ret (ret_pool rfl _ _ w.heap.size rfl (((HA.out.set0 r).set1 0).set2 (.slice none 0 0)) ⟨_, _, _, rfl⟩) rfl ?_
    exact ⟨rfl, ((HB.out.setCell (Nat.le_refl _) _).setCell (Nat.le_refl _) _).setCell (Nat.le_refl _) _⟩
  · rw [if_neg hr]
    rw [decide_eq_false hr] at HR
    clear hr
    go_enter Tryz.func20, Tryz.ntmps20
    go_wp2_with fail
    refine (HR.out _).mono ?_
    rintro e w1 ⟨rfl, hb⟩
    have HB := Lib.hid ((((Below.refl w.heap.size w).alloc (Nat.le_refl _) (.cells #[.int .i64 0, .int .i64 0, .slice none 0 0] 56)).alloc (by simp) (.cells #[.int .i64 r, .int .i64 0, .slice none 0 0] 56)).trans (hb.mono (by simp; omega)))
    have A0 : BX w1 w.heap.size 0 0 (.slice none 0 0) := BX.below (w := (w.alloc (.cells #[.int .i64 0, .int .i64 0, .slice none 0 0] 56)).alloc (.cells #[.int .i64 r, .int .i64 0, .slice none 0 0] 56)) ((BX.new w 0 0 (.slice none 0 0)).below (B := w.heap.size + 1) ((Below.refl _ _).alloc (by simp) _) (by omega)) hb (by simp; omega)
    have HA := Lib.hid A0
    have e0 := A0.c0
    have e1 := A0.c1
    have e2 := A0.c2
    have f0 := A0.fr 0
    have f1 := A0.fr 1
    have f2 := A0.fr 2
    clear A0 hb
    go_wp2_with fail
    refine bodyPost_ret (ret_pool rfl _ _ w.heap.size rfl (((HA.out.set0 0).set1 0).set2 (.slice none 0 0)) ⟨_, _, _, rfl⟩) rfl ?_
    exact ⟨rfl, ((HB.out.setCell (Nat.le_refl _) _).setCell (Nat.le_refl _) _).setCell (Nat.le_refl _) _⟩
end Go.Proofs.YthaiopgmncnekaaGreatDoor
