/- pool.Right: what they answer. No condition. -/
import Derived.Test.YtkebahdapkjacaaBox
set_option linter.unusedSimpArgs false
set_option linter.unusedVariables false
namespace Go.Proofs.Ytkebahdapkjacaa
open Go.RowKit
def RightP (r c : Int) (n : Nat) : Prop := 1 ≤ r ∧ r ≤ 400 ∧ 0 ≤ c ∧ c ≤ 1099511627776 ∧ (n : Int) = min r c
instance (r c : Int) (n : Nat) : Decidable (RightP r c n) := by unfold RightP; infer_instance
set_option maxHeartbeats 400000 in
theorem right_any (r c : Int) (a : Option Addr) (n cap : Nat) (w : World) : Calls Try.prog 19 #[.agg #[.int .i64 r, .int .i64 c, .slice a n cap]] w fun e w' => e = .returned (.bool (decide (RightP r c n))) ∧ Below w.heap.size w w' := by
  go_enter Try.func19, Try.ntmps19
  go_wp2_with fail
  all_goals
    go_ret
    refine ⟨congrArg (fun b => Ending.returned (.bool b)) ?_, (Below.refl _ _).alloc (Nat.le_refl _) _⟩
    first
      | exact (decide_eq_false (fun hh => by unfold RightP at hh; omega)).symm
      | (rw [Bool.eq_iff_iff, decide_eq_true_iff, beq_iff_eq]; unfold RightP; omega)
end Go.Proofs.Ytkebahdapkjacaa
