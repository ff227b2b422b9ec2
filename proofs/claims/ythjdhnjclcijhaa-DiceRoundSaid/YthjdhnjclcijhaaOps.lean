/- dice.Mean, dice.Beats, dice.Die: what they answer. No condition. -/
import Derived.Test.YthjdhnjclcijhaaRight
set_option linter.unusedSimpArgs false
set_option linter.unusedVariables false
namespace Go.Proofs.Ythjdhnjclcijhaa
open Go.RowKit
theorem mean_bad (v : Value) (zs : List Int) (w : World) (h : Rd w v zs) (hr : ¬ RightL zs) : Calls Try.prog 16 #[v] w fun e w' => e = .returned (.tuple #[.int .i64 0, .int .i64 0, .int .i64 1]) ∧ w = w' := by
  have HR := Lib.hid (right_any v zs w h)
  rw [decide_eq_false hr] at HR
  clear h hr
  go_enter Try.func16, Try.ntmps16
  go_wp2_with fail
  refine HR.out.mono ?_
  rintro e w1 ⟨rfl, rfl⟩
  go_wp2_with fail
  go_ret3
  exact ⟨rfl, rfl⟩
set_option maxHeartbeats 800000 in
theorem mean_ok (v : Value) (zs : List Int) (w : World) (h : Rd w v zs) (hr : RightL zs) : Calls Try.prog 16 #[v] w fun e w' => e = .returned (.tuple #[.int .i64 (total zs : Nat), .int .i64 (ways zs : Nat), .int .i64 0]) ∧ w = w' := by
  have HR := Lib.hid (right_any v zs w h)
  rw [decide_eq_true hr] at HR
  obtain ⟨a, cap, rfl, hlc, hcm, hop⟩ := h.open
  have HO := Lib.hid hop
  clear h hop
  have hl := hr.1
  have HRL := Lib.hid hr
  have HT : Hid (total zs = tot (fun k => k * nd zs k) zs.length) := rfl
  have HW : Hid (ways zs = tot (nd zs) zs.length) := rfl
  clear hr
  have B1 : Hid (∀ i, i ≤ 200 → tot (fun k => k * nd zs k) i ≤ 200 * (200 * 1048576)) := fun i hi => by
    have h1 := tot_le (f := fun k => k * nd zs k) (k := i) (c := 200 * 1048576) (fun j hj => Nat.mul_le_mul (by omega) (HRL.out.le j))
    exact Nat.le_trans h1 (Nat.mul_le_mul_right _ hi)
  have B2 : Hid (∀ i, i ≤ 200 → tot (nd zs) i ≤ 200 * 1048576) := fun i hi => by
    have h1 := tot_le (f := nd zs) (k := i) (c := 1048576) (fun j _ => HRL.out.le j)
    exact Nat.le_trans h1 (Nat.mul_le_mul_right _ hi)
  obtain ⟨fT, hfT⟩ : ∃ f, f = tot (fun k => k * nd zs k) := ⟨_, rfl⟩
  obtain ⟨fW, hfW⟩ : ∃ f, f = tot (nd zs) := ⟨_, rfl⟩
  have T0 : Hid (fT 0 = 0) := by show _ = _; rw [hfT]; rfl
  have W0 : Hid (fW 0 = 0) := by show _ = _; rw [hfW]; rfl
  have TS : Hid (∀ i, fT (i + 1) = fT i + i * nd zs i) := fun i => by rw [hfT]; rfl
  have WS : Hid (∀ i, fW (i + 1) = fW i + nd zs i) := fun i => by rw [hfW]; rfl
  rw [← hfT] at B1 HT
  rw [← hfW] at B2 HW
  clear hfT hfW
  go_enter Try.func16, Try.ntmps16
  go_wp2_with fail
  refine HR.out.mono ?_
  rintro e w1 ⟨rfl, rfl⟩
  go_wp2_with fail
  go_loop [5, 6, 14] (fun sv wv iv => ∃ i : Nat, i ≤ zs.length ∧ iv = .int .i64 i ∧ sv = .int .i64 (fT i : Nat) ∧ wv = .int .i64 (fW i : Nat)) (fun _ _ iv => zs.length - (intOf iv).toNat)
  case atStart => exact ⟨0, Nat.zero_le _, rfl, by rw [T0.out]; rfl, by rw [W0.out]; rfl⟩
  case round =>
    obtain ⟨i, hi, rfl, rfl, rfl⟩ := hrel
    have b1 := B1.out i (by omega)
    have b2 := B2.out i (by omega)
    by_cases hlt : i < zs.length
    · obtain ⟨b, off, rfl, hb, hc⟩ := HO.out i hlt
      have c := hc i hlt
      obtain ⟨q1, q2⟩ := HRL.out.at hlt
      rw [q1] at c
      have TS1 := Lib.hid (TS.out i)
      have WS1 := Lib.hid (WS.out i)
      have hm : (i : Int) * (nd zs i : Int) = ((i * nd zs i : Nat) : Int) := by simp
      have hmb : i * nd zs i ≤ 200 * 1048576 := Nat.mul_le_mul (by omega) q2
      clear hc q1
      generalize i * nd zs i = p at *
      generalize nd zs i = x at *
      generalize fT i = y at *
      generalize fW i = z at *
      go_wp2_with fail
      go_round
      case rel => exact ⟨i + 1, by omega, by go_num, by rw [TS1.out]; go_num, by rw [WS1.out]; go_num⟩
      case measure => simp [intOf]; omega
    · obtain rfl : i = zs.length := by omega
      go_wp2_with fail
      go_ret3
      exact ⟨by rw [HT.out, HW.out]; rfl, rfl⟩
theorem beats_bad (v v2 : Value) (xs ys : List Int) (w : World) (h : Rd w v xs) (h2 : Rd w v2 ys) (hr : ¬ (RightL xs ∧ RightL ys)) : Calls Try.prog 15 #[v, v2] w fun e w' => e = .returned (.tuple #[.int .i64 0, .int .i64 0, .int .i64 1]) ∧ w = w' := by
  have HA := Lib.hid (right_any v xs w h)
  have HB := Lib.hid (right_any v2 ys w h2)
  by_cases ha : RightL xs
  · rw [decide_eq_true ha] at HA
    rw [decide_eq_false (fun hb => hr ⟨ha, hb⟩)] at HB
    clear h h2 hr ha
    go_enter Try.func15, Try.ntmps15
    go_wp2_with fail
    refine HA.out.mono ?_
    rintro e w1 ⟨rfl, rfl⟩
    go_wp2_with fail
    refine HB.out.mono ?_
    rintro e w1 ⟨rfl, rfl⟩
    go_wp2_with fail
    go_ret3
    exact ⟨rfl, rfl⟩
  · rw [decide_eq_false ha] at HA
    clear h h2 hr ha
    go_enter Try.func15, Try.ntmps15
    go_wp2_with fail
    refine HA.out.mono ?_
    rintro e w1 ⟨rfl, rfl⟩
    go_wp2_with fail
    go_ret3
    exact ⟨rfl, rfl⟩
set_option maxHeartbeats 1600000 in
theorem beats_ok (v v2 : Value) (xs ys : List Int) (w : World) (h : Rd w v xs) (h2 : Rd w v2 ys) (ha : RightL xs) (hb : RightL ys) : Calls Try.prog 15 #[v, v2] w fun e w' => e = .returned (.tuple #[.int .i64 (moreT xs ys : Nat), .int .i64 (sameT xs ys : Nat), .int .i64 0]) ∧ w = w' := by
  have HA := Lib.hid (right_any v xs w h)
  have HB := Lib.hid (right_any v2 ys w h2)
  rw [decide_eq_true ha] at HA
  rw [decide_eq_true hb] at HB
  obtain ⟨a, cap, rfl, hlc, hcm, hop⟩ := h.open
  obtain ⟨a2, cap2, rfl, hlc2, hcm2, hop2⟩ := h2.open
  have HO := Lib.hid hop
  have HO2 := Lib.hid hop2
  clear h h2 hop hop2
  have hl := ha.1
  have hl2 := hb.1
  have RA := Lib.hid ha
  have RB := Lib.hid hb
  clear ha hb
  have hp : ∀ i j, nd xs i * nd ys j ≤ 1048576 * 1048576 := fun i j => Nat.mul_le_mul (RA.out.le i) (RB.out.le j)
  have hm1 : ∀ i j, more xs ys i j ≤ 1048576 * 1048576 := fun i j => by
    unfold more
    by_cases h : j < i
    · rw [if_pos h]; exact hp i j
    · rw [if_neg h]; exact Nat.zero_le _
  have hs1 : ∀ i j, same xs ys i j ≤ 1048576 * 1048576 := fun i j => by
    unfold same
    by_cases h : i = j
    · rw [if_pos h]; exact hp i j
    · rw [if_neg h]; exact Nat.zero_le _
  have BMj : Hid (∀ i j, j ≤ 200 → tot (more xs ys i) j ≤ 200 * (1048576 * 1048576)) := fun i j hj => Nat.le_trans (tot_le (fun k _ => hm1 i k)) (Nat.mul_le_mul_right _ hj)
  have BSj : Hid (∀ i j, j ≤ 200 → tot (same xs ys i) j ≤ 200 * (1048576 * 1048576)) := fun i j hj => Nat.le_trans (tot_le (fun k _ => hs1 i k)) (Nat.mul_le_mul_right _ hj)
  have BMi : Hid (∀ i, i ≤ 200 → tot (fun i => tot (more xs ys i) ys.length) i ≤ 200 * (200 * (1048576 * 1048576))) := fun i hi => Nat.le_trans (tot_le (fun k _ => BMj.out k _ hl2)) (Nat.mul_le_mul_right _ hi)
  have BSi : Hid (∀ i, i ≤ 200 → tot (fun i => tot (same xs ys i) ys.length) i ≤ 200 * (200 * (1048576 * 1048576))) := fun i hi => Nat.le_trans (tot_le (fun k _ => BSj.out k _ hl2)) (Nat.mul_le_mul_right _ hi)
  have HP := Lib.hid hp
  clear hp hm1 hs1
  obtain ⟨fM, hfM⟩ : ∃ f, f = tot (fun i => tot (more xs ys i) ys.length) := ⟨_, rfl⟩
  obtain ⟨fS, hfS⟩ : ∃ f, f = tot (fun i => tot (same xs ys i) ys.length) := ⟨_, rfl⟩
  have M0 : Hid (fM 0 = 0) := by show _ = _; rw [hfM]; rfl
  have S0 : Hid (fS 0 = 0) := by show _ = _; rw [hfS]; rfl
  have MS : Hid (∀ i, fM (i + 1) = fM i + tot (more xs ys i) ys.length) := fun i => by rw [hfM]; rfl
  have SS : Hid (∀ i, fS (i + 1) = fS i + tot (same xs ys i) ys.length) := fun i => by rw [hfS]; rfl
  have HMT : Hid (moreT xs ys = fM xs.length) := by show _ = _; rw [hfM]; rfl
  have HST : Hid (sameT xs ys = fS xs.length) := by show _ = _; rw [hfS]; rfl
  rw [← hfM] at BMi
  rw [← hfS] at BSi
  clear hfM hfS
  go_enter Try.func15, Try.ntmps15
  go_wp2_with fail
  refine HA.out.mono ?_
  rintro e w1 ⟨rfl, rfl⟩
  go_wp2_with fail
  refine HB.out.mono ?_
  rintro e w1 ⟨rfl, rfl⟩
  go_wp2_with fail
  go_loop [7, 8, 23] (fun mv sv iv => ∃ i : Nat, i ≤ xs.length ∧ iv = .int .i64 i ∧ mv = .int .i64 (fM i : Nat) ∧ sv = .int .i64 (fS i : Nat)) (fun _ _ iv => xs.length - (intOf iv).toNat)
  case atStart => exact ⟨0, Nat.zero_le _, rfl, by rw [M0.out]; rfl, by rw [S0.out]; rfl⟩
  case round =>
    obtain ⟨i, hi, rfl, rfl, rfl⟩ := hrel
    have b1 := BMi.out i (by omega)
    have b2 := BSi.out i (by omega)
    by_cases hlt : i < xs.length
    · obtain ⟨b, off, rfl, hb, hc⟩ := HO.out i hlt
      have c := hc i hlt
      obtain ⟨q1, q2⟩ := RA.out.at hlt
      rw [q1] at c
      have MS1 := Lib.hid (MS.out i)
      have SS1 := Lib.hid (SS.out i)
      clear hc q1
      generalize hX : fM i = X at *
      generalize hY : fS i = Y at *
      clear hX hY
      go_wp2_with fail
      go_loop [7, 8, 30] (fun mv sv jv => ∃ j : Nat, j ≤ ys.length ∧ jv = .int .i64 j ∧ mv = .int .i64 (X + tot (more xs ys i) j : Nat) ∧ sv = .int .i64 (Y + tot (same xs ys i) j : Nat)) (fun _ _ jv => ys.length - (intOf jv).toNat)
      case atStart => exact ⟨0, Nat.zero_le _, rfl, rfl, rfl⟩
      case round =>
        obtain ⟨j, hj, rfl, rfl, rfl⟩ := hrel
        have d1 := BMj.out i j (by omega)
        have d2 := BSj.out i j (by omega)
        by_cases hjl : j < ys.length
        · obtain ⟨b', off', rfl, hb', hc'⟩ := HO2.out j hjl
          have c' := hc' j hjl
          obtain ⟨r1, r2⟩ := RB.out.at hjl
          rw [r1] at c'
          have hpp := HP.out i j
          have hm : (nd xs i : Int) * (nd ys j : Int) = ((nd xs i * nd ys j : Nat) : Int) := by simp
          have E1 : Hid (tot (more xs ys i) (j + 1) = tot (more xs ys i) j + if j < i then nd xs i * nd ys j else 0) := rfl
          have E2 : Hid (tot (same xs ys i) (j + 1) = tot (same xs ys i) j + if i = j then nd xs i * nd ys j else 0) := rfl
          clear hc' r1
          generalize tot (more xs ys i) j = P at *
          generalize tot (same xs ys i) j = Q at *
          generalize nd xs i * nd ys j = pr at *
          generalize nd xs i = x at *
          generalize nd ys j = y at *
          have hXP : X + P + pr ≤ 9223372036854775807 := by omega
          have hYQ : Y + Q + pr ≤ 9223372036854775807 := by omega
          rcases Nat.lt_trichotomy j i with h | h | h
          · rw [if_pos h] at E1
            rw [if_neg (by omega)] at E2
            have f1 : decide ((j : Int) < (i : Int)) = true := decide_eq_true (by omega)
            have f2 : decide (j < i) = true := decide_eq_true h
            go_wp2_with fail
            go_round
            case rel => exact ⟨j + 1, by omega, by go_num, by rw [E1.out]; go_num, by rw [E2.out]; rfl⟩
            case measure => simp [intOf]; omega
          · subst h
            rw [if_neg (by omega)] at E1
            rw [if_pos rfl] at E2
            have f1 : decide ((j : Int) < (j : Int)) = false := decide_eq_false (by omega)
            have f3 : ((j : Int) == (j : Int)) = true := by simp
            go_wp2_with fail
            go_round
            case rel => exact ⟨j + 1, by omega, by go_num, by rw [E1.out]; rfl, by rw [E2.out]; go_num⟩
            case measure => simp [intOf]; omega
          · rw [if_neg (by omega)] at E1
            rw [if_neg (by omega)] at E2
            have f1 : decide ((j : Int) < (i : Int)) = false := decide_eq_false (by omega)
            have f2 : decide (j < i) = false := decide_eq_false (by omega)
            have f3 : ((i : Int) == (j : Int)) = false := by rw [beq_eq_false_iff_ne]; omega
            go_wp2_with fail
            go_round
            case rel => exact ⟨j + 1, by omega, by go_num, by rw [E1.out]; rfl, by rw [E2.out]; rfl⟩
            case measure => simp [intOf]; omega
        · obtain rfl : j = ys.length := by omega
          go_wp2_with fail
          go_round
          case rel => exact ⟨i + 1, by omega, by go_num, by rw [MS1.out], by rw [SS1.out]⟩
          case measure => simp [intOf]; omega
    · obtain rfl : i = xs.length := by omega
      go_wp2_with fail
      go_ret3
      exact ⟨by rw [HMT.out, HST.out]; rfl, rfl⟩
end Go.Proofs.Ythjdhnjclcijhaa
