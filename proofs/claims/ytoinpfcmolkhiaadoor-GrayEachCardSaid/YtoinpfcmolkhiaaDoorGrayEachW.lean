/- The walk of GrayEach. Condition: the table of math/bits is as its initialiser lays it. -/
import Derived.Test.YtoinpfcmolkhiaaDoorAl
import Derived.Test.YtoinpfcmolkhiaaDoorXEach
set_option linter.unusedSimpArgs false
set_option linter.unusedVariables false
namespace Go.Proofs.YtoinpfcmolkhiaaDoor.grayEach
open Go.RowKit Go.Proofs.YtoinpfcmolkhiaaDoor
theorem lawE_parts {n : Nat} (h : lawE n = true) : xeach (bruN n) n = true ∧ cntT (bruN n) = (bruN n).length / 2 ∧ (bruN n).length = 2 ^ n := by
  unfold lawE at h
  rw [Bool.and_eq_true, decide_eq_true_eq] at h
  refine ⟨h.1, h.2, ?_⟩
  have h1 := h.1
  unfold xeach at h1
  rw [Bool.and_eq_true, decide_eq_true_eq] at h1
  exact h1.1
theorem cntT_take (zs : List Bool) (i : Nat) (hi : i < zs.length) : cntT (zs.take (i + 1)) = cntT (zs.take i) + if zs.getD i false then 1 else 0 := by
  have happ : ∀ l : List Bool, ∀ b, cntT (l ++ [b]) = cntT l + if b then 1 else 0 := by
    intro l b
    induction l with
    | nil => simp [cntT]
    | cons c r ih => show _ + cntT (r ++ [b]) = _ + cntT r + _; rw [ih]; omega
  rw [List.take_add_one, List.getElem?_eq_getElem hi, List.getD_eq_getElem?_getD, List.getElem?_eq_getElem hi]
  exact happ _ _
theorem cntT_le : ∀ zs : List Bool, cntT zs ≤ zs.length
  | [] => Nat.le_refl _
  | b :: r => by have := cntT_le r; unfold cntT; rw [List.length_cons]; split <;> omega
set_option maxHeartbeats 1600000 in
set_option maxRecDepth 20000 in
theorem run (n : Nat) (w : World) (hT : TabAt w) (hn : n ≤ 10) :
    Calls Tryd.prog 4 #[.int .i64 n] w fun e w' => e = .returned (.bool true) ∧ Below w.heap.size w w' := by
  obtain ⟨hE, hC, hL⟩ := lawE_parts (each_ok n (by omega))
  have HBR := Lib.hid (fun w => bruijn_any n w hn)
  have HXF := Lib.hid (fun w (h : n < 5) => xfirst_any n w h)
  generalize bruN n = zs at *
  obtain ⟨q, hq⟩ : ∃ q, 2 ^ n = q := ⟨_, rfl⟩
  have hq1 := two_le n hn
  rw [hq] at hL hq1
  rw [hL] at hC
  have HQ := Lib.hid hq
  have HE := Lib.hid hE
  have HC := Lib.hid hC
  have HL := Lib.hid hL
  have HT := Lib.hid hT
  have HCT : Hid (∀ i, i < q → cntT (zs.take (i + 1)) = cntT (zs.take i) + if zs.getD i false then 1 else 0) := fun i hi => cntT_take zs i (by rw [HL.out]; exact hi)
  have HCL : Hid (∀ i, cntT (zs.take i) ≤ i) := fun i => Nat.le_trans (cntT_le _) (by rw [List.length_take]; exact Nat.min_le_left _ _)
  have hn0 : decide ((n : Int) < 0) = false := decide_eq_false (by omega)
  have hn1 : decide (10 < (n : Int)) = false := decide_eq_false (by omega)
  have hn1' : decide (10 < n) = false := decide_eq_false (by omega)
  clear hE hC hL hq hT
  go_enter Tryd.func4, Tryd.ntmps4
  go_wp2_with fail
  refine (alive_any w HT.out).mono ?_
  rintro e w1 ⟨rfl, hb⟩
  have HB := Lib.hid hb
  clear hb
  go_wp2_with fail
  refine (HBR.out _).mono ?_
  rintro e w2 ⟨hb2, a, m, c, rfl, hr⟩
  obtain ⟨hlm, hmc, hmm⟩ := hr.lenEq
  obtain rfl : m = q := by rw [← hlm]; exact HL.out
  have HB2 := Lib.hid (HB.out.trans (hb2.mono HB.out.size))
  have HR2 := Lib.hid hr
  have hC0 : Hid (cntT (zs.take 0) = 0) := rfl
  clear hb2 hr hlm
  go_wp2_with fail
  go_loop [23, 5] (fun iv sv => ∃ i : Nat, i ≤ m ∧ iv = .int .i64 i ∧ sv = .int .i64 (cntT (zs.take i) : Nat)) (fun iv _ => m - (intOf iv).toNat)
  case atStart => exact ⟨0, Nat.zero_le _, rfl, by rw [hC0.out]; rfl⟩
  case round =>
    obtain ⟨i, hi, rfl, rfl⟩ := hrel
    by_cases hil : i < m
    · have hiI : (i : Int) < (m : Int) := by omega
      obtain ⟨b, off, rfl, hb, hc⟩ := HR2.out.at (by omega)
      have cx := hc i hil
      have hct := HCT.out i hil
      have hcl := HCL.out i
      have HCTi := Lib.hid hct
      clear hc hct
      generalize zs.getD i false = x at *
      generalize cntT (zs.take i) = s at *
      cases x with
      | true =>
        go_wp2_with fail
        go_round
        case rel => exact ⟨i + 1, by omega, by go_num, by rw [HCTi.out]; rfl⟩
        case measure => simp [intOf]; omega
      | false =>
        go_wp2_with fail
        go_round
        case rel => exact ⟨i + 1, by omega, by go_num, by rw [HCTi.out]; rfl⟩
        case measure => simp [intOf]; omega
    · obtain rfl : i = m := by omega
      have hta : zs.take i = zs := List.take_of_length_le (by rw [HL.out]; exact Nat.le_refl _)
      rw [hta, HC.out]
      obtain ⟨s, hs⟩ : ∃ s, i / 2 = s := ⟨_, rfl⟩
      have hdv : (i : Int) / 2 = (s : Int) := by rw [← hs]; rfl
      have hdv2 : Int.tdiv (i : Int) 2 = (s : Int) := by rw [Int.tdiv_eq_ediv_of_nonneg (by omega)]; exact hdv
      have hne : ((s : Int) != (s : Int)) = false := by simp
      rw [hs]
      clear hs
      clear hta hC0 HC HCT HCL
      go_wp2_with fail
      refine (xeach_any a i n c _ _ HR2.out HQ.out.symm hn).mono ?_
      rintro e w3 ⟨rfl, hb3⟩
      rw [HE.out]
      have HB3 := Lib.hid (HB2.out.trans (hb3.mono HB2.out.size))
      have HR3 := Lib.hid (HR2.out.below hb3 (Nat.le_refl _))
      clear hb3
      by_cases h5 : n < 5
      · have h5d : decide (4 < (n : Int)) = false := decide_eq_false (by omega)
        have h5d' : decide (4 < n) = false := decide_eq_false (by omega)
        go_wp2_with fail
        refine (HXF.out _ h5).mono ?_
        rintro e w4 ⟨hb4, v4, rfl, hr4⟩
        have HB4 := Lib.hid (HB3.out.trans (hb4.mono HB3.out.size))
        have HR34 := Lib.hid (HR3.out.below hb4 (Nat.le_refl _))
        have HR4 := Lib.hid hr4
        clear hb4 hr4
        go_wp2_with fail
        refine (equalB_any _ _ _ _ _ HR34.out HR4.out).mono ?_
        rintro e w5 ⟨rfl, hb5⟩
        have HB5 := Lib.hid (HB4.out.trans (hb5.mono HB4.out.size))
        rw [decide_eq_true (rfl : zs = zs)]
        clear hb5
        go_wp2_with fail
        go_ret
        exact ⟨rfl, HB5.out⟩
      · have h5d : decide (4 < (n : Int)) = true := decide_eq_true (by omega)
        have h5d' : decide (4 < n) = true := decide_eq_true (by omega)
        go_wp2_with fail
        go_ret
        exact ⟨rfl, HB3.out⟩
theorem walk (a0 : Int) (w : World) (hT : TabAt w) (w0 : (Lit.int .i64 a0).wf = true) :
    Calls Tryd.prog 4 #[.int .i64 a0] w fun e w' => e = .returned (.bool true) ∧ Below w.heap.size w w' := by
  by_cases h : 0 ≤ a0 ∧ a0 ≤ 10
  · obtain ⟨n, rfl⟩ : ∃ n : Nat, a0 = n := ⟨a0.toNat, by omega⟩
    exact run n w hT (by omega)
  · have hx : decide (a0 < 0) = true ∨ (decide (a0 < 0) = false ∧ decide (10 < a0) = true) := by
      simp only [decide_eq_true_eq, decide_eq_false_iff_not]; omega
    have HT := Lib.hid hT
    clear h hT w0
    rcases hx with f1 | ⟨f1, f2⟩
    all_goals
      go_enter Tryd.func4, Tryd.ntmps4
      go_wp2_with fail
      refine (alive_any w HT.out).mono ?_
      rintro e w1 ⟨rfl, hb⟩
      have HB := Lib.hid hb
      clear hb
      go_wp2_with fail
      go_ret
      exact ⟨rfl, HB.out⟩
end Go.Proofs.YtoinpfcmolkhiaaDoor.grayEach
