/- The walk of BottomBack. No condition. -/
import Derived.Test.YticodfdonpookaaAl
import Derived.Test.YticodfdonpookaaUnm
set_option linter.unusedSimpArgs false
set_option linter.unusedVariables false
namespace Go.Proofs.Yticodfdonpookaa.bottomBack
open Go.RowKit Go.Proofs.Yticodfdonpookaa
set_option maxHeartbeats 800000 in
theorem run (x y : BitVec 64) (w : World) :
    Calls Try.prog 6 #[.int .u64 (U x), .int .u64 (U y)] w fun e w' => e = .returned (.bool true) ∧ Below w.heap.size w w' := by
  have H1 := Lib.hid (fun w => mix_any x w)
  have H2 : Hid (∀ w, Calls Try.prog 16 #[.int .u64 (U (mix x))] w fun e w' => e = .returned (.int .u64 (U x)) ∧ w = w') := fun w => by
    have := unmix_any (mix x) w
    rw [unmix_mix] at this
    exact this
  have H3 := Lib.hid (fun w => unmix_any x w)
  have H4 : Hid (∀ w, Calls Try.prog 17 #[.int .u64 (U (unmix x))] w fun e w' => e = .returned (.int .u64 (U x)) ∧ w = w') := fun w => by
    have := mix_any (unmix x) w
    rw [mix_unmix] at this
    exact this
  have H5 := Lib.hid (fun w => mix_any y w)
  have HT : Hid (((U (mix x) == U (mix y)) == (U x == U y)) = true) := by
    show _ = _
    by_cases h : x = y
    · subst h; simp
    · have h1 : ¬ U x = U y := fun e => h (U_inj.1 e)
      have h2 : ¬ U (mix x) = U (mix y) := fun e => h (mix_inj (U_inj.1 e))
      rw [beq_eq_false_iff_ne.2 h1, beq_eq_false_iff_ne.2 h2]; rfl
  generalize U (mix x) = mx at *
  generalize U (mix y) = my at *
  generalize U (unmix x) = nx at *
  generalize U x = ux at *
  generalize U y = uy at *
  have t0 : (ux == ux) = true := by simp
  go_enter Try.func6, Try.ntmps6
  go_wp2_with fail
  refine (alive_any w).mono ?_
  rintro e w1 ⟨rfl, hb1⟩
  have HB1 := Lib.hid hb1
  clear hb1
  go_wp2_with fail
  refine (H1.out _).mono ?_
  rintro e w' ⟨rfl, rfl⟩
  go_wp2_with fail
  refine (H2.out _).mono ?_
  rintro e w' ⟨rfl, rfl⟩
  go_wp2_with fail
  refine (H3.out _).mono ?_
  rintro e w' ⟨rfl, rfl⟩
  go_wp2_with fail
  refine (H4.out _).mono ?_
  rintro e w' ⟨rfl, rfl⟩
  go_wp2_with fail
  refine (H1.out _).mono ?_
  rintro e w' ⟨rfl, rfl⟩
  go_wp2_with fail
  refine (H5.out _).mono ?_
  rintro e w' ⟨rfl, rfl⟩
  have t1 := HT.out
  go_wp2_with fail
  go_ret
  exact ⟨rfl, HB1.out⟩
theorem walk (x y : Int) (w : World) (w0 : (Lit.int .u64 x).wf = true) (w1 : (Lit.int .u64 y).wf = true) :
    Calls Try.prog 6 #[.int .u64 x, .int .u64 y] w fun e w' => e = .returned (.bool true) ∧ Below w.heap.size w w' := by
  obtain ⟨a, rfl⟩ := U_of w0
  obtain ⟨b, rfl⟩ := U_of w1
  exact run a b w
end Go.Proofs.Yticodfdonpookaa.bottomBack
