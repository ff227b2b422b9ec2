/- The walk of TopMiddle. Condition: the listed variables as they are laid. -/
import Derived.Test.YthaiopgmncnekaaGreatDoorMidL
set_option linter.unusedSimpArgs false
set_option linter.unusedVariables false
namespace Go.Proofs.YthaiopgmncnekaaGreatDoor
open Go.RowKit Mid Qu
set_option maxHeartbeats 1600000 in
set_option maxRecDepth 20000 in
theorem middle_none (v : Value) (w : World) (hT : TW w) (hv : Rd w v []) :
    Calls Tryz.prog 3 #[v] w fun e w' => e = .returned (.bool true) ∧ Below w.heap.size w w' := by
  have HA := Lib.hid (alive_any w hT)
  obtain ⟨a, cap, rfl, h1, h2, -⟩ := hv.open
  clear hT hv
  simp only [List.length_nil]
  go_enter Tryz.func3, Tryz.ntmps3
  go_wp2_with fail
  refine HA.out.mono ?_
  rintro e w1 ⟨rfl, hb1⟩
  have HB1 := Lib.hid hb1
  clear hb1 HA
  go_wp2_with fail
  go_ret
  exact ⟨rfl, HB1.out⟩
set_option maxHeartbeats 1600000 in
set_option maxRecDepth 20000 in
theorem middle_many (v : Value) (zs : List Int) (w : World) (hT : TW w) (hv : Rd w v zs) (hl : 49 < zs.length) :
    Calls Tryz.prog 3 #[v] w fun e w' => e = .returned (.bool true) ∧ Below w.heap.size w w' := by
  have HA := Lib.hid (alive_any w hT)
  obtain ⟨a, cap, rfl, h1, h2, -⟩ := hv.open
  generalize zs.length = n at *
  have q1 : decide ((49 : Int) < (n : Int)) = true := decide_eq_true (by omega)
  have q2 : decide (49 < n) = true := decide_eq_true hl
  have q3 : ((n : Int) == 0) = false := by rw [beq_eq_false_iff_ne]; omega
  have q4 : ((n : Int) = 0) = False := eq_false (by omega)
  have q5 : (n = 0) = False := eq_false (by omega)
  clear hT hv
  go_enter Tryz.func3, Tryz.ntmps3
  go_wp2_with fail
  refine HA.out.mono ?_
  rintro e w1 ⟨rfl, hb1⟩
  have HB1 := Lib.hid hb1
  clear hb1 HA
  go_wp2_with fail
  go_ret
  exact ⟨rfl, HB1.out⟩
set_option maxHeartbeats 1600000 in
set_option maxRecDepth 20000 in
theorem middle_far (v : Value) (zs : List Int) (w : World) (hT : TW w) (hv : Rd w v zs) (h0 : 0 < zs.length) (hl : zs.length ≤ 49) (hf : farL zs = true) :
    Calls Tryz.prog 3 #[v] w fun e w' => e = .returned (.bool true) ∧ Below w.heap.size w w' := by
  have HA := Lib.hid (alive_any w hT)
  have HC : Hid (∀ w', Below w.heap.size w w' → Calls Tryz.prog 5 #[v, .func (.func 6) #[] #[]] w' fun e w2 => e = .returned (.bool true) ∧ w2 = w') := fun w' hb => by
    have := contains_any v zs w' (hv.below hb (Nat.le_refl _))
    rwa [hf] at this
  obtain ⟨a, cap, rfl, h1, h2, -⟩ := hv.open
  generalize zs.length = n at *
  have q1 : decide ((49 : Int) < (n : Int)) = false := decide_eq_false (by omega)
  have q2 : decide (49 < n) = false := decide_eq_false (by omega)
  have q3 : ((n : Int) == 0) = false := by rw [beq_eq_false_iff_ne]; omega
  have q4 : ((n : Int) = 0) = False := eq_false (by omega)
  have q5 : (n = 0) = False := eq_false (by omega)
  clear hT hv hf
  go_enter Tryz.func3, Tryz.ntmps3
  go_wp2_with fail
  refine HA.out.mono ?_
  rintro e w1 ⟨rfl, hb1⟩
  have HB1 := Lib.hid hb1
  clear hb1 HA
  go_wp2_with fail
  refine (HC.out _ HB1.out).mono ?_
  rintro e w2 ⟨rfl, rfl⟩
  go_wp2_with fail
  go_ret
  exact ⟨rfl, HB1.out⟩
set_option maxHeartbeats 1600000 in
set_option maxRecDepth 20000 in
theorem middle_ok (v : Value) (zs : List Int) (w : World) (hT : TW w) (hv : Rd w v zs) (h0 : 0 < zs.length) (hl : zs.length ≤ 49) (hf : farL zs = false) :
    Calls Tryz.prog 3 #[v] w fun e w' => e = .returned (.bool true) ∧ Below w.heap.size w w' := by
  have HA := Lib.hid (alive_any w hT)
  have HV := Lib.hid hv
  have HC : Hid (∀ w', Below w.heap.size w w' → Calls Tryz.prog 5 #[v, .func (.func 6) #[] #[]] w' fun e w2 => e = .returned (.bool false) ∧ w2 = w') := fun w' hb => by
    have := contains_any v zs w' (hv.below hb (Nat.le_refl _))
    rwa [hf] at this
  have hsm : ∀ x ∈ zs, -1000 ≤ x ∧ x ≤ 1000 := fun x hx => by
    unfold farL at hf
    rw [List.any_eq_false] at hf
    have := hf x hx
    unfold Mid.far at this
    simp at this
    omega
  have HSM : Hid (∀ i, -1000 ≤ (srt zs).getD i 0 ∧ (srt zs).getD i 0 ≤ 1000) := fun i => by
    rw [List.getD_eq_getElem?_getD]
    by_cases hi : i < (srt zs).length
    · rw [List.getElem?_eq_getElem hi]
      exact hsm _ ((srt_perm zs).mem_iff.1 (List.getElem_mem hi))
    · rw [List.getElem?_eq_none (by omega)]; decide
  have HM : Hid (∀ w', Below w.heap.size w w' → Calls Tryz.prog 9 #[v] w' fun e w2 => e = .returned (.tuple #[.int .i64 (Stat.med zs), .int .i64 0]) ∧ Below w'.heap.size w' w2) := fun w' hb =>
    Stat.med_any v zs w' (hv.below hb (Nat.le_refl _)) ⟨by omega, fun x hx => by have := hsm x hx; omega⟩ h0
  have HMD : Hid (Stat.med zs = (srt zs).getD ((zs.length - 1) / 2) 0 + (srt zs).getD (zs.length / 2) 0) := rfl
  have HAL : Hid (∀ w', Below w.heap.size w w' → Calls Tryz.prog 7 #[.int .i64 100, v] w' fun e w2 => ∃ (l : List Rk) (v' : Value), e = .returned (.tuple #[v', .int .i64 0]) ∧ Qu.Own w2 w'.heap.size v' l ∧ Qu.RightP 100 l ∧ cnt l = l.length ∧ l.length = zs.length ∧ (∀ i, i < l.length → (fndS ((i + 1 : Nat) : Int) l).1 = (srt zs).getD i 0) ∧ Below w'.heap.size w' w2) := fun w' hb => by
    refine (all_any 100 v zs w' (hv.below hb (Nat.le_refl _))).mono ?_
    rintro e w2 ⟨hb2, ⟨-, -, l, v', hall, rfl, ho, hinv, hl4, hc4⟩ | ⟨h1 | h1, -⟩⟩
    · obtain ⟨f1, f2⟩ := few_end hall (by omega) hinv.srt
      have hlen : l.length = zs.length := by have := congrArg List.length f2; rw [List.length_map, srt_len] at this; exact this
      exact ⟨l, v', rfl, ho, hinv.right (by decide) (by decide) hl4 hc4, few_cnt f1, hlen, fun i hi => find_end f1 f2 i hi, hb2⟩
    · exact absurd ⟨by decide, by decide⟩ h1
    · obtain ⟨l', hl'⟩ := few_some zs [] [] ⟨(fun r hr => by cases hr), List.Perm.nil⟩ (by simp; omega)
      rw [h1] at hl'; cases hl'
  obtain ⟨a, cap, rfl, h1, h2, -⟩ := hv.open
  obtain ⟨n, hn⟩ : ∃ n, zs.length = n := ⟨_, rfl⟩
  rw [hn] at h0 hl h1 HC HM HMD HAL ⊢
  have q1 : decide ((49 : Int) < (n : Int)) = false := decide_eq_false (by omega)
  have q2 : decide (49 < n) = false := decide_eq_false (by omega)
  have q3 : ((n : Int) == 0) = false := by rw [beq_eq_false_iff_ne]; omega
  have q4 : ((n : Int) = 0) = False := eq_false (by omega)
  have q5 : (n = 0) = False := eq_false (by omega)
  clear hT hv hf hsm hn
  go_enter Tryz.func3, Tryz.ntmps3
  go_wp2_with fail
  refine HA.out.mono ?_
  rintro e w1 ⟨rfl, hb1⟩
  have HB1 := Lib.hid hb1
  clear hb1 HA
  go_wp2_with fail
  refine (HC.out _ HB1.out).mono ?_
  rintro e w2 ⟨rfl, rfl⟩
  go_wp2_with fail
  refine (HAL.out _ HB1.out).mono ?_
  rintro e w3 ⟨l, v', rfl, ho, hr, hc, hll, hfn, hb3⟩
  have HB3 := Lib.hid (HB1.out.trans (hb3.mono HB1.out.size))
  have HFN := Lib.hid hfn
  obtain ⟨m1, hm1⟩ : ∃ m1, (n - 1) / 2 = m1 := ⟨_, rfl⟩
  obtain ⟨m2, hm2⟩ : ∃ m2, n / 2 = m2 := ⟨_, rfl⟩
  have HFD : Hid (∀ (a : Option Addr) (cp : Nat) (w' : World) (i : Nat), Qu.Own w' w2.heap.size (.slice a n cp) l → i < n → Calls Tryz.prog 8 #[.int .i64 100, .slice a n cp, .int .i64 ((i : Int) + 1)] w' fun e w4 => e = .returned (.tuple #[.int .i64 ((srt zs).getD i 0), .int .i64 0]) ∧ Below w'.heap.size w' w4) := fun a cp w' i ho hi => by
    have := find_any 100 ((i + 1 : Nat) : Int) a n cp _ l w' ho hll hr (by omega) (by rw [hc, hll]; omega)
    rw [HFN.out i (by omega), Int.natCast_add] at this
    exact this
  have hof := ho
  unfold Qu.Own at hof
  rw [hll] at hof
  obtain ⟨a2, k2, rfl⟩ : ∃ a k, v' = .slice a n k := by
    rcases hof.2 with ⟨rfl, h0⟩ | ⟨g, cap, cur, rfl, _⟩
    · exact ⟨none, 0, by rw [h0]⟩
    · exact ⟨_, _, rfl⟩
  have HO := Lib.hid ho
  clear ho hof hb3 hr hc hfn HAL HC HFN
  have e1 : ((n : Int) - 1) / 2 = (m1 : Int) := by omega
  have e2 : (n : Int) / 2 = (m2 : Int) := by omega
  have hm1n : m1 < n := by omega
  have hm2n : m2 < n := by omega
  have b1 := HSM.out m1
  have b2 := HSM.out m2
  rw [hm1, hm2] at HMD
  rw [HMD.out] at HM
  have HF1 : Hid (∀ w', Qu.Own w' w2.heap.size (.slice a2 n k2) l → Calls Tryz.prog 8 #[.int .i64 100, .slice a2 n k2, .int .i64 ((m1 : Int) + 1)] w' fun e w4 => e = .returned (.tuple #[.int .i64 ((srt zs).getD m1 0), .int .i64 0]) ∧ Below w'.heap.size w' w4) := fun w' h => HFD.out a2 k2 w' m1 h hm1n
  have HF2 : Hid (∀ w', Qu.Own w' w2.heap.size (.slice a2 n k2) l → Calls Tryz.prog 8 #[.int .i64 100, .slice a2 n k2, .int .i64 ((m2 : Int) + 1)] w' fun e w4 => e = .returned (.tuple #[.int .i64 ((srt zs).getD m2 0), .int .i64 0]) ∧ Below w'.heap.size w' w4) := fun w' h => HFD.out a2 k2 w' m2 h hm2n
  generalize (srt zs).getD m1 0 = x1 at *
  generalize (srt zs).getD m2 0 = x2 at *
  clear hm1 hm2 HSM HMD HFD
  go_wp2_with fail
  refine (HF1.out _ HO.out).mono ?_
  rintro e w4 ⟨rfl, hb4⟩
  have HB4 := Lib.hid (HB3.out.trans (hb4.mono HB3.out.size))
  have HO4 := Lib.hid (HO.out.below hb4 (Nat.le_refl _))
  clear hb4
  go_wp2_with fail
  refine (HF2.out _ HO4.out).mono ?_
  rintro e w5 ⟨rfl, hb5⟩
  have HB5 := Lib.hid (HB4.out.trans (hb5.mono HB4.out.size))
  clear hb5
  go_wp2_with fail
  refine (HM.out _ HB5.out).mono ?_
  rintro e w6 ⟨rfl, hb6⟩
  have HB6 := Lib.hid (HB5.out.trans (hb6.mono HB5.out.size))
  clear hb6
  have r1 : IntKind.i64.wrap (x1 + x2) = x1 + x2 := by rw [IntKind.wrap_i64]; omega
  have r2 : (x1 + x2 == x1 + x2) = true := beq_self_eq_true _
  go_wp2_with fail
  go_ret
  exact ⟨rfl, HB6.out⟩
theorem topMiddle.walk (a1 : Option Addr) (len1 cap1 : Nat) (z1 : List Int) (w : World) (hT : TW w) (w1 : IsRow .i64 w a1 len1 cap1 z1) :
    Calls Tryz.prog 3 #[.slice a1 len1 cap1] w fun e w' => e = .returned (.bool true) ∧ Below w.heap.size w w' := by
  obtain ⟨h1, g1⟩ := w1.rd
  generalize z1.take len1 = zs at *
  by_cases h0 : 0 < zs.length
  · by_cases hl : 49 < zs.length
    · exact middle_many _ zs w hT h1 hl
    · cases hf : farL zs
      · exact middle_ok _ zs w hT h1 h0 (by omega) hf
      · exact middle_far _ zs w hT h1 h0 (by omega) hf
  · obtain rfl : zs = [] := List.length_eq_zero_iff.1 (by omega)
    exact middle_none _ w hT h1
end Go.Proofs.YthaiopgmncnekaaGreatDoor
