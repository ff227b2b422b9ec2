/- dice.Right, dice.Die, dice.Mean, dice.Beats: what they answer. No condition. -/
import Derived.Test.YthaiopgmncnekaaDoorDiceDef
set_option linter.unusedSimpArgs false
set_option linter.unusedVariables false
namespace Go.Proofs.YthaiopgmncnekaaDoor.Dice
open Go.RowKit
set_option maxHeartbeats 800000 in
theorem right_any (v : Value) (zs : List Int) (w : World) (h : Rd w v zs) : Calls Tryd.prog 41 #[v] w fun e w' => e = .returned (.bool (decide (RightL zs))) ∧ w = w' := by
  obtain ⟨a, cap, rfl, hlc, hcm, hop⟩ := h.open
  clear h
  have HO := Lib.hid hop; clear hop
  by_cases h1 : 200 < zs.length
  · have HD : Hid (decide (RightL zs) = false) := decide_eq_false (fun h => by have := h.1; omega)
    have e1 : decide (200 < (zs.length : Int)) = true := decide_eq_true (by omega)
    have e2 : decide (200 < zs.length) = true := decide_eq_true h1
    go_enter Tryd.func41, Tryd.ntmps41
    go_wp2_with fail
    go_ret
    exact ⟨by simp [HD.out], rfl⟩
  · have e1 : decide (200 < (zs.length : Int)) = false := decide_eq_false (by omega)
    have e2 : decide (200 < zs.length) = false := decide_eq_false h1
    by_cases h0 : 0 < zs.length
    · obtain ⟨b, off, rfl, hb, hc⟩ := HO.out 0 h0
      have cl := hc (zs.length - 1) (by omega)
      have HC := Lib.hid hc
      clear hc
      have e3 : decide (0 < (zs.length : Int)) = true := decide_eq_true (by omega)
      have e4 : decide (0 < zs.length) = true := decide_eq_true h0
      have hlen1 : (zs.length : Int) - 1 = ((zs.length - 1 : Nat) : Int) := by omega
      by_cases hl : zs.getD (zs.length - 1) 0 = 0
      · have HD : Hid (decide (RightL zs) = false) := decide_eq_false (fun h => h.2.1 h0 hl)
        rw [hl] at cl
        go_enter Tryd.func41, Tryd.ntmps41
        go_wp2_with fail
        go_ret
        exact ⟨by simp [HD.out], rfl⟩
      · have HL := Lib.hid hl
        have e5 : (zs.getD (zs.length - 1) 0 == 0) = false := by rw [beq_eq_false_iff_ne]; exact hl
        generalize hlast : zs.getD (zs.length - 1) 0 = last at *
        have HLA := Lib.hid hlast
        clear hlast hl
        go_enter Tryd.func41, Tryd.ntmps41
        go_wp2_with fail
        go_loop [24] (fun iv => ∃ i : Nat, i ≤ zs.length ∧ iv = .int .i64 i ∧ Hid (∀ j, j < i → 0 ≤ zs.getD j 0 ∧ zs.getD j 0 ≤ 1048576)) (fun iv => zs.length - (intOf iv).toNat)
        case atStart => exact ⟨0, Nat.zero_le _, rfl, fun j hj => by omega⟩
        case round =>
          obtain ⟨i, hi, rfl, hr⟩ := hrel
          by_cases hlt : i < zs.length
          · have c := HC.out i hlt
            by_cases hin : 0 ≤ zs.getD i 0 ∧ zs.getD i 0 ≤ 1048576
            · have HR : Hid (∀ j, j < i + 1 → 0 ≤ zs.getD j 0 ∧ zs.getD j 0 ≤ 1048576) := fun j hj => by
                rcases Nat.lt_or_ge j i with h | h
                · exact hr.out j h
                · rw [show j = i by omega]; exact hin
              obtain ⟨n1, n2⟩ := hin
              have f1 : decide (zs.getD i 0 < 0) = false := decide_eq_false (by omega)
              have f2 : decide (1048576 < zs.getD i 0) = false := decide_eq_false (by omega)
              generalize zs.getD i 0 = x at *
              go_wp2_with fail
              go_round
              case rel => exact ⟨i + 1, by omega, by go_num, HR.out⟩
              case measure => simp [intOf]; omega
            · have HD : Hid (decide (RightL zs) = false) := decide_eq_false (fun h => hin (h.2.2 i hlt))
              have hor : zs.getD i 0 < 0 ∨ 1048576 < zs.getD i 0 := by omega
              generalize zs.getD i 0 = x at *
              rcases hor with h | h
              · have f1 : decide (x < 0) = true := decide_eq_true h
                go_wp2_with fail
                go_ret
                exact ⟨by simp [HD.out], rfl⟩
              · have f1 : decide (x < 0) = false := decide_eq_false (by omega)
                have f2 : decide (1048576 < x) = true := decide_eq_true h
                go_wp2_with fail
                go_ret
                exact ⟨by simp [HD.out], rfl⟩
          · obtain rfl : i = zs.length := by omega
            have HD : Hid (decide (RightL zs) = true) := decide_eq_true ⟨by omega, fun _ => by rw [HLA.out]; exact HL.out, hr.out⟩
            go_wp2_with fail
            go_ret
            exact ⟨by simp [HD.out], rfl⟩
    · have hz : zs.length = 0 := by omega
      have e3 : decide (0 < (zs.length : Int)) = false := decide_eq_false (by omega)
      have e4 : decide (0 < zs.length) = false := decide_eq_false h0
      have HD : Hid (decide (RightL zs) = true) := decide_eq_true ⟨by omega, fun h => absurd h h0, fun i hi => absurd hi (by omega)⟩
      rw [hz] at *
      go_enter Tryd.func41, Tryd.ntmps41
      go_wp2_with fail
      refine wp_loop_rounds 1 ?_
      rw [rounds_succ]
      go_wp2_with fail
      go_ret
      exact ⟨by simp [HD.out], rfl⟩
end Go.Proofs.YthaiopgmncnekaaDoor.Dice
