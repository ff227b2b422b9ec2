/- stats.Median: what it answers. Condition: a row within the reach. -/
import Derived.Test.YthaiopgmncnekaaGreatDoorStatOf
import Derived.Test.YthaiopgmncnekaaGreatDoorSorted
set_option linter.unusedSimpArgs false
set_option linter.unusedVariables false
set_option maxRecDepth 20000
namespace Go.Proofs.YthaiopgmncnekaaGreatDoor.Stat
open Go.RowKit
def med (zs : List Int) : Int := (srt zs).getD ((zs.length - 1) / 2) 0 + (srt zs).getD (zs.length / 2) 0
theorem srt_sml {zs : List Int} (h : Sml zs) : Sml (srt zs) := fun x hx => h x ((srt_perm zs).mem_iff.1 hx)
set_option maxHeartbeats 800000 in
theorem med_bad (v : Value) (zs : List Int) (w : World) (h : Rd w v zs) (hno : ¬ OkL zs ∨ zs = []) :
    Calls Tryz.prog 9 #[v] w fun e w' => (∃ er : Nat, er ≠ 0 ∧ e = .returned (.tuple #[.int .i64 0, .int .i64 er])) ∧ Below w.heap.size w w' := by
  by_cases hok : OkL zs
  · have hz : zs = [] := by rcases hno with h | h; exact absurd hok h; exact h
    subst hz
    have HOF := Lib.hid (of_good v [] w h hok)
    obtain ⟨a, cap, rfl, -⟩ := h.open
    clear h hno hok
    unfold mv at HOF
    simp only [List.length_nil]
    go_enter Tryz.func9, Tryz.ntmps9
    go_wp2_with fail
    refine HOF.out.mono ?_
    rintro e w1 ⟨rfl, hb1⟩
    have HB1 := Lib.hid hb1
    clear hb1 HOF
    go_wp2_with fail
    go_ret2
    exact ⟨⟨3, by decide, rfl⟩, HB1.out.alloc HB1.out.size _⟩
  · have HOF := Lib.hid (of_bad v zs w h hok)
    obtain ⟨a, cap, rfl, -⟩ := h.open
    clear h hno hok
    unfold mv at HOF
    go_enter Tryz.func9, Tryz.ntmps9
    go_wp2_with fail
    refine HOF.out.mono ?_
    rintro e w1 ⟨rfl, hb1⟩
    have HB1 := Lib.hid hb1
    clear hb1 HOF
    go_wp2_with fail
    go_ret2
    exact ⟨⟨2, by decide, rfl⟩, HB1.out.alloc HB1.out.size _⟩
set_option maxHeartbeats 800000 in
theorem med_any (v : Value) (zs : List Int) (w : World) (h : Rd w v zs) (hok : OkL zs) (h0 : 0 < zs.length) :
    Calls Tryz.prog 9 #[v] w fun e w' => e = .returned (.tuple #[.int .i64 (med zs), .int .i64 0]) ∧ Below w.heap.size w w' := by
  have HOF := Lib.hid (of_good v zs w h hok)
  have HR := Lib.hid h
  have HSM := Lib.hid (srt_sml hok.2)
  have HSL : Hid ((srt zs).length = zs.length) := srt_len zs
  obtain ⟨n, hn⟩ : ∃ n, zs.length = n := ⟨_, rfl⟩
  have h4 : n ≤ 400 := by have := hok.1; omega
  rw [hn] at h0 HSL
  obtain ⟨i, hi⟩ : ∃ i, (n - 1) / 2 = i := ⟨_, rfl⟩
  obtain ⟨j, hj⟩ : ∃ j, n / 2 = j := ⟨_, rfl⟩
  have HMD : Hid (med zs = (srt zs).getD i 0 + (srt zs).getD j 0) := by show _ = _; unfold med; rw [hn, hi, hj]
  obtain ⟨m, hm⟩ : ∃ m, n = m + 1 := ⟨n - 1, by omega⟩
  have q1 : IntKind.i64.wrap ((n : Int) - 1) = (m : Int) := by rw [IntKind.wrap_i64]; omega
  have q2 : IntKind.i64.wrap ((m : Int).tdiv 2) = (i : Int) := by rw [Int.tdiv_eq_ediv_of_nonneg (by omega), IntKind.wrap_i64]; omega
  have q3 : IntKind.i64.wrap ((n : Int).tdiv 2) = (j : Int) := by rw [Int.tdiv_eq_ediv_of_nonneg (by omega), IntKind.wrap_i64]; omega
  have q4 : (m : Int) / 2 = (i : Int) := by omega
  have q5 : (n : Int) / 2 = (j : Int) := by omega
  have q6 : IntKind.i64.wrap (i : Int) = (i : Int) := by rw [IntKind.wrap_i64]; omega
  have q7 : IntKind.i64.wrap (j : Int) = (j : Int) := by rw [IntKind.wrap_i64]; omega
  have hin : i < n := by omega
  have hjn : j < n := by omega
  have HQ := Lib.hid (And.intro q1 (And.intro q2 (And.intro q3 (And.intro q4 (And.intro q5 (And.intro q6 q7))))))
  have t1 : ((n : Int) == 0) = false := by rw [beq_eq_false_iff_ne]; omega
  clear h hok q1 q2 q3 q4 q5 q6 q7 hm hi hj
  have HRX := HR.out
  obtain ⟨a, cap, rfl, -⟩ := HRX.open
  have HN := Lib.hid hn
  unfold mv at HOF
  rw [hn] at HOF HR ⊢
  clear HRX hn
  go_enter Tryz.func9, Tryz.ntmps9
  go_wp2_with fail
  refine HOF.out.mono ?_
  rintro e w1 ⟨rfl, hb1⟩
  obtain ⟨w2, hw2⟩ : ∃ w2, w1.alloc (.cells #[.int .i64 (n : Int), .int .i64 (sm zs), .int .i64 (sq zs)] 45) = w2 := ⟨_, rfl⟩
  have HB2 : Hid (Below w.heap.size w w2) := by show Below _ _ _; rw [← hw2]; exact hb1.alloc hb1.size _
  have HRX := Lib.hid (HR.out.below HB2.out (Nat.le_refl _))
  have HVA := Lib.hid (values_any _ zs w2 HRX.out)
  have HSO := Lib.hid (sorted_any _ zs w2 HRX.out (by rw [HN.out]; omega))
  have HW2 := Lib.hid hw2
  clear hb1 HOF hw2
  go_wp2_with fail
  rw [HW2.out]
  refine HVA.out.mono ?_
  rintro e w3 ⟨rfl, rfl⟩
  go_wp2_with fail
  refine HSO.out.mono ?_
  rintro e w3 ⟨v3, rfl, ho3, hb3⟩
  have HB3 := Lib.hid (HB2.out.trans (hb3.mono HB2.out.size))
  obtain ⟨a3, cap3, rfl, -, -, hop3⟩ := (Rd.own ho3).open
  rw [HSL.out] at hop3 ⊢
  obtain ⟨b, off, rfl, -, hc⟩ := hop3 i hin
  have c1 := hc i hin
  have c2 := hc j hjn
  have y1 := HSM.out _ (getD_memI (srt zs) i (by rw [HSL.out]; exact hin))
  have y2 := HSM.out _ (getD_memI (srt zs) j (by rw [HSL.out]; exact hjn))
  have HMD2 := HMD
  generalize (srt zs).getD i 0 = x1 at *
  generalize (srt zs).getD j 0 = x2 at *
  obtain ⟨x3, hx3⟩ : ∃ x3, x1 + x2 = x3 := ⟨_, rfl⟩
  have q8 : IntKind.i64.wrap (x1 + x2) = x3 := by rw [IntKind.wrap_i64]; omega
  have HX : Hid (med zs = x3) := by show _ = _; rw [HMD.out, hx3]
  obtain ⟨q1, q2, q3, q4, q5, q6, q7⟩ := HQ.out
  have p1 : (0 ≤ (i : Int) ∧ (i : Int) < (n : Int)) = True := eq_true ⟨by omega, by omega⟩
  have p2 : (0 ≤ (j : Int) ∧ (j : Int) < (n : Int)) = True := eq_true ⟨by omega, by omega⟩
  clear ho3 hb3 HVA HSO hop3 hc hx3 y1 y2 HMD HMD2
  go_wp2_with fail
  go_quiet (fail)
  go_wp2_with fail
  go_ret2
  exact ⟨by rw [HX.out]; rfl, HB3.out.drewN _⟩
end Go.Proofs.YthaiopgmncnekaaGreatDoor.Stat
