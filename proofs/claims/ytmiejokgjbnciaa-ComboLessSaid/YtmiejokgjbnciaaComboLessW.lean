/- The walk of ComboLess. No condition. -/
import Derived.Test.YtmiejokgjbnciaaAl
set_option linter.unusedSimpArgs false
set_option linter.unusedVariables false
namespace Go.Proofs.Ytmiejokgjbnciaa.comboLess
open Go.RowKit Go.Proofs.Ytmiejokgjbnciaa
set_option maxHeartbeats 800000 in
theorem walk (a0 a1 : Int) (a2 : Option Addr) (len2 cap2 : Nat) (z2 : List Int) (w : World) (w0 : (Lit.int .i64 a0).wf = true) (w1 : (Lit.int .i64 a1).wf = true) (w2 : IsRow .i64 w a2 len2 cap2 z2) :
    Calls Try.prog 6 #[.int .i64 a0, .int .i64 a1, .slice a2 len2 cap2] w fun e w' => e = .returned (.bool true) ∧ Below w.heap.size w w' := by
  obtain ⟨b1, b2⟩ := bounds_i64 w0
  have HRD := Lib.hid w2.rd.1
  clear w0 w1 w2
  generalize hzs : z2.take len2 = zs at *
  clear hzs
  by_cases hx : a1 < 0 ∨ 60 < a1
  · rcases hx with h | h
    all_goals
      go_enter Try.func6, Try.ntmps6
      go_wp2_with fail
      refine (alive_any _).mono ?_
      rintro e w1 ⟨rfl, hb1⟩
      go_wp2_with fail
      all_goals
        go_ret
        exact ⟨rfl, hb1⟩
  · have h0 : 0 ≤ a1 := by omega
    have h1 : a1 ≤ 60 := by omega
    clear hx
    go_enter Try.func6, Try.ntmps6
    go_wp2_with fail
    refine (alive_any _).mono ?_
    rintro e w1 ⟨rfl, hb1⟩
    have r1 := HRD.out.below hb1 (Nat.le_refl _)
    go_wp2_with fail
    refine (rank_any a0 _ zs _ r1).mono ?_
    rintro e w2 ⟨hb2, ⟨hr, rfl⟩ | ⟨hr, rfl⟩⟩
    · have r2 := r1.below hb2 (Nat.le_refl _)
      have HB2 := Lib.hid (hb1.trans (hb2.mono hb1.size))
      have a60 : a0 + a1 ≤ 120 := by have := hr.2.1; omega
      have a61 : 0 ≤ a0 + a1 := by have := hr.1; omega
      clear hb1 hb2 r1 hr
      generalize hx : rk zs = x at *
      have HX := Lib.hid hx; clear hx
      go_wp2_with fail
      refine (rank_any (a0 + a1) _ zs _ r2).mono ?_
      rintro e w3 ⟨hb3, ⟨hr, rfl⟩ | ⟨hr, rfl⟩⟩
      all_goals
        have HB3 := Lib.hid (HB2.out.trans (hb3.mono HB2.out.size))
        clear hb3 r2 hr HB2
      · rw [HX.out]
        go_wp2_with fail
        go_ret
        exact ⟨by simp, HB3.out⟩
      · go_wp2_with fail
        go_ret
        exact ⟨by simp, HB3.out⟩
    · have r2 := r1.below hb2 (Nat.le_refl _)
      have HB2 := Lib.hid (hb1.trans (hb2.mono hb1.size))
      clear hb1 hb2 r1 hr
      go_wp2_with fail
      refine (rank_any _ _ zs _ r2).mono ?_
      rintro e w3 ⟨hb3, ⟨hr, rfl⟩ | ⟨hr, rfl⟩⟩
      all_goals
        have HB3 := Lib.hid (HB2.out.trans (hb3.mono HB2.out.size))
        clear hb3 r2 hr HB2
      · generalize rk zs = x at *
        go_wp2_with fail
        go_ret
        exact ⟨by simp, HB3.out⟩
      · go_wp2_with fail
        go_ret
        exact ⟨by simp, HB3.out⟩
end Go.Proofs.Ytmiejokgjbnciaa.comboLess
