/- The walks of WalkReflect and WalkBallot. No condition. -/
import Derived.Test.YtbdlfiabijajfaaAl
import Derived.Test.YtbdlfiabijajfaaLaws
set_option linter.unusedSimpArgs false
set_option linter.unusedVariables false
namespace Go.Proofs.Ytbdlfiabijajfaa.walkReflect
open Go.RowKit Go.Proofs.Ytbdlfiabijajfaa
theorem sym (n : Nat) (hn : n ≤ 56) (a b : Int) (h1 : 1 ≤ a) (h2 : a ≤ 40) (h3 : 1 ≤ b) (h4 : b ≤ 40) : ab n a b = ab n b a := by
  unfold ab
  have e : fr n (b - a) = fr n (a - b) := by
    rcases Int.le_total a b with h | h
    · have := fr_sym n (by omega) (b - a).toNat (by omega)
      rw [Int.toNat_of_nonneg (by omega)] at this
      rw [← this]; congr 1; omega
    · have := fr_sym n (by omega) (a - b).toNat (by omega)
      rw [Int.toNat_of_nonneg (by omega)] at this
      rw [← this]; congr 1; omega
  rw [e, Int.add_comm a b]
theorem walk_out (n a b : Int) (hx : n < 0 ∨ 56 < n ∨ a < 1 ∨ b < 1 ∨ 40 < a ∨ 40 < b) (w : World) : Calls Try.prog 3 #[.int .i64 n, .int .i64 a, .int .i64 b] w fun e w' => e = .returned (.bool true) ∧ Below w.heap.size w w' := by
  have HX := Lib.hid hx; clear hx
  by_cases h1 : n < 0
  · clear HX
    go_enter Try.func3, Try.ntmps3
    go_wp2_with fail
    refine (alive_any _).mono ?_
    rintro e w1 ⟨rfl, hb1⟩
    go_wp2_with fail
    go_ret
    exact ⟨rfl, hb1⟩
  · by_cases h2 : 56 < n
    · clear HX
      go_enter Try.func3, Try.ntmps3
      go_wp2_with fail
      refine (alive_any _).mono ?_
      rintro e w1 ⟨rfl, hb1⟩
      go_wp2_with fail
      go_ret
      exact ⟨rfl, hb1⟩
    · by_cases h3 : a < 1
      · clear HX
        go_enter Try.func3, Try.ntmps3
        go_wp2_with fail
        refine (alive_any _).mono ?_
        rintro e w1 ⟨rfl, hb1⟩
        go_wp2_with fail
        go_ret
        exact ⟨rfl, hb1⟩
      · by_cases h4 : b < 1
        · clear HX
          go_enter Try.func3, Try.ntmps3
          go_wp2_with fail
          refine (alive_any _).mono ?_
          rintro e w1 ⟨rfl, hb1⟩
          go_wp2_with fail
          go_ret
          exact ⟨rfl, hb1⟩
        · by_cases h5 : 40 < a
          · clear HX
            go_enter Try.func3, Try.ntmps3
            go_wp2_with fail
            refine (alive_any _).mono ?_
            rintro e w1 ⟨rfl, hb1⟩
            go_wp2_with fail
            go_ret
            exact ⟨rfl, hb1⟩
          · have h6 : 40 < b := by have := HX.out; omega
            clear HX
            go_enter Try.func3, Try.ntmps3
            go_wp2_with fail
            refine (alive_any _).mono ?_
            rintro e w1 ⟨rfl, hb1⟩
            go_wp2_with fail
            go_ret
            exact ⟨rfl, hb1⟩
set_option maxHeartbeats 400000 in
theorem walk_in (n : Nat) (hn : n ≤ 56) (a b : Int) (h1 : 1 ≤ a) (h2 : a ≤ 40) (h3 : 1 ≤ b) (h4 : b ≤ 40) (w : World) : Calls Try.prog 3 #[.int .i64 n, .int .i64 a, .int .i64 b] w fun e w' => e = .returned (.bool true) ∧ Below w.heap.size w w' := by
  have H1 := Lib.hid (fun w => Free_any n hn (b - a) (by omega) (by omega) w)
  have H2 := Lib.hid (fun w => Above_any n hn a b (by omega) (by omega) (by omega) (by omega) w)
  have H3 := Lib.hid (fun w => Free_any n hn (b + a) (by omega) (by omega) w)
  have H4 := Lib.hid (fun w => Above_any n hn b a (by omega) (by omega) (by omega) (by omega) w)
  have l1 := fr_le56 n hn (b - a)
  have l2 := fr_le56 n hn (b + a)
  have e2 : ab n a b = (fr n (b - a) : Int) - (fr n (b + a) : Int) := rfl
  rw [← sym n hn a b h1 h2 h3 h4, e2] at H4
  rw [e2] at H2
  clear e2
  generalize fr n (b - a) = x at *
  generalize fr n (b + a) = y at *
  have k1 : ((x : Int) - ((x : Int) - (y : Int)) == (y : Int)) = true := by rw [beq_iff_eq]; omega
  have k2 : ((x : Int) - (y : Int) == (x : Int) - (y : Int)) = true := by simp
  go_enter Try.func3, Try.ntmps3
  go_wp2_with fail
  refine (alive_any _).mono ?_
  rintro e w1 ⟨rfl, hb1⟩
  go_wp2_with fail
  refine (H1.out _).mono ?_
  rintro e w2 ⟨rfl, hb2⟩
  go_wp2_with fail
  refine (H2.out _).mono ?_
  rintro e w3 ⟨rfl, hb3⟩
  go_wp2_with fail
  refine (H3.out _).mono ?_
  rintro e w4 ⟨rfl, hb4⟩
  go_wp2_with fail
  refine (H4.out _).mono ?_
  rintro e w5 ⟨rfl, hb5⟩
  go_wp2_with fail
  go_ret
  have s1 := hb1.size
  have s2 := hb2.size
  have s3 := hb3.size
  have s4 := hb4.size
  exact ⟨by simp; try omega, (((hb1.trans (hb2.mono s1)).trans (hb3.mono (by omega))).trans (hb4.mono (by omega))).trans (hb5.mono (by omega))⟩
theorem walk (a0 a1 a2 : Int) (w : World) (w0 : (Lit.int .i64 a0).wf = true) (w1 : (Lit.int .i64 a1).wf = true) (w2 : (Lit.int .i64 a2).wf = true) :
    Calls Try.prog 3 #[.int .i64 a0, .int .i64 a1, .int .i64 a2] w fun e w' => e = .returned (.bool true) ∧ Below w.heap.size w w' := by
  by_cases hx : a0 < 0 ∨ 56 < a0 ∨ a1 < 1 ∨ a2 < 1 ∨ 40 < a1 ∨ 40 < a2
  · exact walk_out a0 a1 a2 hx w
  · obtain ⟨n, rfl⟩ : ∃ n : Nat, a0 = n := ⟨a0.toNat, by omega⟩
    exact walk_in n (by omega) a1 a2 (by omega) (by omega) (by omega) (by omega) w
end Go.Proofs.Ytbdlfiabijajfaa.walkReflect
