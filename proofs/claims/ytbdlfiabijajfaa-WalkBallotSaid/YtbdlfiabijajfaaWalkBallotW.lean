/- The walk of WalkBallot. No condition. -/
import Derived.Test.YtbdlfiabijajfaaAl
import Derived.Test.YtbdlfiabijajfaaLaws
set_option linter.unusedSimpArgs false
set_option linter.unusedVariables false
namespace Go.Proofs.Ytbdlfiabijajfaa.walkBallot
open Go.RowKit Go.Proofs.Ytbdlfiabijajfaa
theorem walk_out (n l : Int) (hx : n < 1 ∨ 56 < n ∨ l < 1 ∨ n < l) (w : World) : Calls Try.prog 4 #[.int .i64 n, .int .i64 l] w fun e w' => e = .returned (.bool true) ∧ Below w.heap.size w w' := by
  have HX := Lib.hid hx; clear hx
  by_cases h1 : n < 1
  · clear HX
    go_enter Try.func4, Try.ntmps4
    go_wp2_with fail
    refine (alive_any _).mono ?_
    rintro e w1 ⟨rfl, hb1⟩
    go_wp2_with fail
    go_ret
    exact ⟨rfl, hb1⟩
  · by_cases h2 : 56 < n
    · clear HX
      go_enter Try.func4, Try.ntmps4
      go_wp2_with fail
      refine (alive_any _).mono ?_
      rintro e w1 ⟨rfl, hb1⟩
      go_wp2_with fail
      go_ret
      exact ⟨rfl, hb1⟩
    · by_cases h3 : l < 1
      · clear HX
        go_enter Try.func4, Try.ntmps4
        go_wp2_with fail
        refine (alive_any _).mono ?_
        rintro e w1 ⟨rfl, hb1⟩
        go_wp2_with fail
        go_ret
        exact ⟨rfl, hb1⟩
      · have h4 : n < l := by have := HX.out; omega
        clear HX
        go_enter Try.func4, Try.ntmps4
        go_wp2_with fail
        refine (alive_any _).mono ?_
        rintro e w1 ⟨rfl, hb1⟩
        go_wp2_with fail
        go_ret
        exact ⟨rfl, hb1⟩
set_option maxHeartbeats 400000 in
theorem walk_in (m : Nat) (hm : m ≤ 55) (l : Nat) (h1 : 1 ≤ l) (h2 : l ≤ m + 1) (w : World) : Calls Try.prog 4 #[.int .i64 ((m : Int) + 1), .int .i64 l] w fun e w' => e = .returned (.bool true) ∧ Below w.heap.size w w' := by
  have H1 : Hid (∀ w, Calls Try.prog 9 #[.int .i64 ((m : Int) + 1), .int .i64 l] w fun e w' => e = .returned (.tuple #[.int .i64 (fr (m + 1) l : Nat), .int .i64 0]) ∧ Below w.heap.size w w') := fun w => Free_any (m + 1) (by omega) l (by omega) (by omega) w
  have H2 := Lib.hid (fun w => Above_any m (by omega) 1 l (by omega) (by omega) (by omega) (by omega) w)
  obtain ⟨e1, e2, e3⟩ := ballot (m + 1) (by omega) l (by omega) h1 h2
  rw [Nat.add_sub_cancel] at e1 e2 e3
  rw [Int.natCast_add] at e1 e2 e3
  have e4 : 0 ≤ (fr (m + 1) l : Int) * l := by rw [← e1]; exact e2
  have e5 : (fr (m + 1) l : Int) * l ≤ 1000000000000000000 := by rw [← e1]; exact e3
  have e6 : (ab m 1 l * ((m : Int) + 1) == (fr (m + 1) l : Int) * l) = true := by rw [beq_iff_eq]; exact e1
  have e2' : 0 ≤ ab m 1 l * ((m : Int) + 1) := e2
  have e3' : ab m 1 l * ((m : Int) + 1) ≤ 1000000000000000000 := e3
  clear e1 e2 e3
  generalize fr (m + 1) l = x at *
  generalize ab m 1 l = y at *
  go_enter Try.func4, Try.ntmps4
  go_wp2_with fail
  refine (alive_any _).mono ?_
  rintro e w1 ⟨rfl, hb1⟩
  go_wp2_with fail
  refine (H1.out _).mono ?_
  rintro e w2 ⟨rfl, hb2⟩
  go_wp2_with fail
  refine (H2.out _).mono ?_
  rintro e w3 ⟨rfl, hb3⟩
  go_wp2_with fail
  go_ret
  have s1 := hb1.size
  have s2 := hb2.size
  exact ⟨rfl, (hb1.trans (hb2.mono s1)).trans (hb3.mono (by omega))⟩
theorem walk (a0 a1 : Int) (w : World) (w0 : (Lit.int .i64 a0).wf = true) (w1 : (Lit.int .i64 a1).wf = true) :
    Calls Try.prog 4 #[.int .i64 a0, .int .i64 a1] w fun e w' => e = .returned (.bool true) ∧ Below w.heap.size w w' := by
  by_cases hx : a0 < 1 ∨ 56 < a0 ∨ a1 < 1 ∨ a0 < a1
  · exact walk_out a0 a1 hx w
  · obtain ⟨m, rfl⟩ : ∃ m : Nat, a0 = (m : Int) + 1 := ⟨(a0 - 1).toNat, by omega⟩
    obtain ⟨l, rfl⟩ : ∃ l : Nat, a1 = l := ⟨a1.toNat, by omega⟩
    exact walk_in m (by omega) l (by omega) (by omega) w
end Go.Proofs.Ytbdlfiabijajfaa.walkBallot
