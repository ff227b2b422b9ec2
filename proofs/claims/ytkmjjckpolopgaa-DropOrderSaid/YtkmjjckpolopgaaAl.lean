/- The small check ahead of each law: it is passed. -/
import Derived.Test.YtkmjjckpolopgaaOne
import Derived.Test.YtkmjjckpolopgaaEqualB
set_option linter.unusedSimpArgs false
set_option linter.unusedVariables false
namespace Go.Proofs.Ytkmjjckpolopgaa
open Go.RowKit
theorem lev_of {ws l : List Int} (hp : l.Perm ws) (hs : l.Pairwise (· ≤ ·)) (keep : Int) : lev ws keep = if (ws.length : Int) ≤ keep then (0, 0) else peel l ws.length keep := by
  unfold lev; rw [← srt_unique hp hs]
theorem al_l : lev [1, 9, 2, 3] 2 = (6, 1) := by
  rw [lev_of (l := [1, 2, 3, 9]) (by decide) (by decide)]; decide +kernel
theorem al_h : hvy (lev [1, 9, 2, 3] 2).1 (lev [1, 9, 2, 3] 2).2 [1, 9, 2, 3] = [false, true, false, false] := by
  rw [al_l]; decide +kernel
theorem al_o : oneF (lev [1, 9, 2] 2).1 (lev [1, 9, 2] 2).2 [1, 9, 2] 0 2 = some 2 := by
  rw [lev_of (l := [1, 2, 9]) (by decide) (by decide)]; decide +kernel
set_option maxHeartbeats 1600000 in
theorem alive_any (w : World) : Calls Try.prog 8 #[] w fun e w' => e = .returned (.bool true) ∧ Below w.heap.size w w' := by
  have HA : Hid (Calls Try.prog 9 #[.slice (some ⟨w.heap.size, 0, none⟩) 4 4, .int .i64 2] (w.alloc (.cells #[.int .i64 1, .int .i64 9, .int .i64 2, .int .i64 3] 3)) fun e w' =>
      e = .returned (.tuple #[.agg #[.int .i64 6, .int .i64 1], .int .i64 0]) ∧ Below w.heap.size w w') := by
    refine (lev_many_any _ [1, 9, 2, 3] 2 _ (Rd.built w [1, 9, 2, 3] _ 3 rfl 4 rfl (by decide)) (by decide) (by decide)).mono ?_
    rintro e w' ⟨rfl, h1⟩
    exact ⟨by rw [al_l]; rfl, ((Below.refl _ _).alloc (Nat.le_refl _) _).trans (h1.mono (by simp))⟩
  go_enter Try.func8, Try.ntmps8
  go_wp2_with fail
  refine HA.out.mono ?_
  rintro e w1 ⟨rfl, hb1⟩
  obtain ⟨w2, hw2⟩ : ∃ w2, w1.alloc (.cells #[.int .i64 6, .int .i64 1] 25) = w2 := ⟨_, rfl⟩
  have HB2 : Hid (Below w.heap.size w w2) := by show Below _ _ _; rw [← hw2]; exact hb1.alloc hb1.size _
  have HK := Lib.hid (kept2 hw2)
  have HV : Hid (Calls Try.prog 10 #[.slice (some ⟨w2.heap.size, 0, none⟩) 4 4, .int .i64 2] (w2.alloc (.cells #[.int .i64 1, .int .i64 9, .int .i64 2, .int .i64 3] 3)) fun e w' =>
      ∃ v', e = .returned (.tuple #[v', .int .i64 0]) ∧ RdB w' v' [false, true, false, false] ∧ Below w2.heap.size w2 w') := by
    refine (hv_good _ [1, 9, 2, 3] 2 _ (Rd.built w2 [1, 9, 2, 3] _ 3 rfl 4 rfl (by decide)) (by decide)).mono ?_
    rintro e w' ⟨v', rfl, h1, h2⟩
    rw [al_h] at h1
    exact ⟨v', rfl, RdB.own h1, ((Below.refl _ _).alloc (Nat.le_refl _) _).trans (h2.mono (by simp))⟩
  have HSZ : Hid (w1.heap.size + 1 = w2.heap.size) := by show _ = _; rw [← hw2]; simp
  have HW2 := Lib.hid hw2
  clear hb1 HA hw2
  have HV' := HV
  rw [← HSZ.out, ← HW2.out] at HV'
  go_wp2_with fail
  refine HV'.out.mono ?_
  rintro e w3 ⟨v3, rfl, hr3, hb3⟩
  rw [HW2.out, HSZ.out] at hb3
  have HB3 := Lib.hid (HB2.out.trans (hb3.mono HB2.out.size))
  have HX3 := Lib.hid hb3
  have HR3 := Lib.hid hr3
  obtain ⟨B, hB⟩ : ∃ B, w1.heap.size = B := ⟨_, rfl⟩
  rw [hB] at HK ⊢
  have HO : Hid (Calls Try.prog 11 #[.slice (some ⟨w3.heap.size, 0, none⟩) 3 3, .int .i64 2] (w3.alloc (.cells #[.int .i64 1, .int .i64 9, .int .i64 2] 3)) fun e w' =>
      e = .returned (.tuple #[.int .i64 2, .int .i64 0]) ∧ Below w3.heap.size w3 w') := by
    refine (one_any _ [1, 9, 2] 2 _ (Rd.built w3 [1, 9, 2] _ 3 rfl 3 rfl (by decide)) (by decide) (by decide)).mono ?_
    rintro e w' ⟨rfl, h1⟩
    refine ⟨?_, ((Below.refl _ _).alloc (Nat.le_refl _) _).trans (h1.mono (by simp))⟩
    have := al_o
    show Ending.returned (oneV (oneF (lev [1, 9, 2] 2).1 (lev [1, 9, 2] 2).2 [1, 9, 2] 0 2)) = _
    rw [this]; rfl
  clear hb3 hr3 HV HV' HW2 HSZ hB
  go_wp2_with fail
  refine HO.out.mono ?_
  rintro e w4 ⟨rfl, hb4⟩
  have HB4 := Lib.hid (HB3.out.trans (hb4.mono HB3.out.size))
  obtain ⟨c0, c1⟩ := HK.out w4 (HX3.out.trans (hb4.mono HX3.out.size))
  have HR4 := Lib.hid (HR3.out.below hb4 (Nat.le_refl _))
  have HE : Hid (Calls Try.prog 14 #[v3, .slice (some ⟨w4.heap.size, 0, none⟩) 4 4] (w4.alloc (.cells #[.bool false, .bool true, .bool false, .bool false] 4)) fun e w' =>
      e = .returned (.bool true) ∧ Below w4.heap.size w4 w') := by
    refine (equalB_any _ _ [false, true, false, false] [false, true, false, false] _ (HR4.out.alloc _) (RdB.built w4 [false, true, false, false] _ 4 rfl 4 rfl (by decide))).mono ?_
    rintro e w' ⟨rfl, h1⟩
    exact ⟨by simp, ((Below.refl _ _).alloc (Nat.le_refl _) _).trans (h1.mono (by simp))⟩
  clear hb4 HO HK HX3
  go_wp2_with fail
  refine HE.out.mono ?_
  rintro e w5 ⟨rfl, hb5⟩
  have HB5 := Lib.hid (HB4.out.trans (hb5.mono HB4.out.size))
  clear hb5 HE
  go_wp2_with fail
  go_ret
  exact ⟨rfl, HB5.out⟩
end Go.Proofs.Ytkmjjckpolopgaa
