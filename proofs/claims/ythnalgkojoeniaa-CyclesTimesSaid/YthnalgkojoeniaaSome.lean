/- slices.ContainsFunc over rows, with Times' closure: there is one whose length does not divide. No condition but that there is. -/
import Derived.Test.YthnalgkojoeniaaAl
set_option linter.unusedSimpArgs false
set_option linter.unusedVariables false
namespace Go.Proofs.Ythnalgkojoeniaa
open Go.RowKit
theorem clo_div (a : Option Addr) (L c B d : Nat) (w : World) (hB : w.cell? ⟨B, 0, none⟩ = some (.int .i64 (d : Nat))) (hL : 1 ≤ L) (hL2 : L ≤ 1000) (hd : d ≤ 1048576) :
    Calls Try.prog 15 #[.slice a L c, .pointer (some ⟨B, 0, none⟩)] w fun e w' => e = .returned (.bool (decide (¬ L ∣ d))) ∧ w' = w := by
  have hmm : ((d : Int) % (L : Int)) = ((d % L : Nat) : Int) := rfl
  have hml := Nat.mod_lt d (show L > 0 by omega)
  have hlne : ((L : Int) == 0) = false := by simp; omega
  by_cases k : L ∣ d
  · have k0 : ((d % L : Nat) : Int) = 0 := by rw [Nat.mod_eq_zero_of_dvd k]; rfl
    rw [show decide (¬ L ∣ d) = false by simpa using k]
    rw [k0] at hmm
    clear k k0 hml
    go_enter Try.func15, Try.ntmps15
    go_wp2_with fail
    go_ret
    exact ⟨rfl, rfl⟩
  · have k0 : ¬ d % L = 0 := fun h => k (Nat.dvd_of_mod_eq_zero h)
    rw [show decide (¬ L ∣ d) = true by simpa using k]
    generalize d % L = m at *
    have hne : ((m : Int) == 0) = false := by simp; omega
    have hne2 : ((m : Int) = 0) = False := eq_false (by omega)
    have HM0 := Lib.hid k0
    clear k k0
    go_enter Try.func15, Try.ntmps15
    go_wp2_with fail
    go_ret
    refine ⟨?_, rfl⟩
    show Ending.returned (.bool ((m : Int) != 0)) = _
    rw [show ((m : Int) != 0) = true by have := HM0.out; simp; omega]
set_option maxHeartbeats 1600000 in
theorem index_div (v : Value) (zss : List (List Int)) (B d k : Nat) (w : World) (h : RdM w v zss) (hB : w.cell? ⟨B, 0, none⟩ = some (.int .i64 (d : Nat))) (hd : d ≤ 1048576)
    (hr : ∀ j, j < zss.length → 1 ≤ (zss.getD j []).length ∧ (zss.getD j []).length ≤ 1000) (hk : k < zss.length) (hno : ¬ (zss.getD k []).length ∣ d) :
    Calls Try.prog 23 #[v, .func (.func 15) #[] #[.pointer (some ⟨B, 0, none⟩)]] w fun e w' => (∃ j : Nat, e = .returned (.int .i64 j)) ∧ w' = w := by
  obtain ⟨a, cap, rfl, hlc, hcm, hop⟩ := h.open
  obtain ⟨b, off, U, rfl, hb, hc⟩ := hop (by omega)
  have HC := Lib.hid hc
  have HRR := Lib.hid hr
  have HCL := Lib.hid (fun a L c h1 h2 => clo_div a L c B d w hB h1 h2 hd)
  have hcl := Nat.lt_of_lt_of_le hk hlc
  have HNO := Lib.hid hno
  clear h hop hc hr hno hB
  obtain ⟨n, hn⟩ : ∃ n, zss.length = n := ⟨_, rfl⟩
  rw [hn] at HC HRR hlc hk ⊢
  clear hn
  go_enter Try.func23, Try.ntmps23
  go_wp2_with fail
  go_loopw [8, 5] (fun iv _ wr => ∃ i : Nat, i ≤ k ∧ iv = .int .i64 i ∧ w = wr) (fun iv _ _ => n - (intOf iv).toNat)
  case atStart => exact ⟨0, Nat.zero_le _, rfl, rfl⟩
  case round =>
    obtain ⟨i, hi, rfl, rfl⟩ := hrel
    obtain ⟨cx, hrd⟩ := HC.out i (by omega)
    obtain ⟨r1, r2⟩ := HRR.out i (by omega)
    obtain ⟨ra, rc, hUi, -, -, -⟩ := hrd.open
    rw [hUi] at cx
    have HNI : Hid (i = k → ¬ (zss.getD i []).length ∣ d) := fun h => by rw [h]; exact HNO.out
    obtain ⟨L, hL⟩ : ∃ L, (zss.getD i []).length = L := ⟨_, rfl⟩
    rw [hL] at cx r1 r2 HNI
    have HX := Lib.hid (HCL.out ra L rc r1 r2)
    have hin : i < n := by omega
    clear hrd hUi hL
    by_cases hdv : L ∣ d
    · have hik : i < k := by
        rcases Nat.lt_or_ge i k with h | h
        · exact h
        · exact absurd hdv (HNI.out (by omega))
      rw [show decide (¬ L ∣ d) = false by simpa using hdv] at HX
      clear hdv
      go_wp2_with fail
      refine HX.out.mono ?_
      rintro e w2 ⟨rfl, rfl⟩
      go_wp2_with fail
      exact ⟨⟨i + 1, by omega, by go_num, by first | rfl | trivial⟩, by simp [intOf]; omega⟩
    · rw [show decide (¬ L ∣ d) = true by simpa using hdv] at HX
      clear hdv
      go_wp2_with fail
      refine HX.out.mono ?_
      rintro e w2 ⟨rfl, rfl⟩
      go_wp2_with fail
      go_ret
      exact ⟨⟨i, rfl⟩, rfl⟩
theorem some_div (v : Value) (zss : List (List Int)) (B d k : Nat) (w : World) (h : RdM w v zss) (hB : w.cell? ⟨B, 0, none⟩ = some (.int .i64 (d : Nat))) (hd : d ≤ 1048576)
    (hr : ∀ j, j < zss.length → 1 ≤ (zss.getD j []).length ∧ (zss.getD j []).length ≤ 1000) (hk : k < zss.length) (hno : ¬ (zss.getD k []).length ∣ d) :
    Calls Try.prog 14 #[v, .func (.func 15) #[] #[.pointer (some ⟨B, 0, none⟩)]] w fun e w' => e = .returned (.bool true) ∧ w' = w := by
  have HI := Lib.hid (index_div v zss B d k w h hB hd hr hk hno)
  obtain ⟨a, cap, rfl, -⟩ := h.open
  clear h hB hr hno
  go_enter Try.func14, Try.ntmps14
  go_wp2_with fail
  refine HI.out.mono ?_
  rintro e w2 ⟨⟨j, rfl⟩, rfl⟩
  have f1 : decide (0 ≤ (j : Int)) = true := decide_eq_true (by omega)
  go_wp2_with fail
  go_ret
  exact ⟨rfl, rfl⟩
end Go.Proofs.Ythnalgkojoeniaa
