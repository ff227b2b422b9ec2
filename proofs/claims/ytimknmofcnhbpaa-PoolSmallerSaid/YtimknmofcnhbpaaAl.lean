/- alive6 is true. No condition. -/
import Derived.Test.YtimknmofcnhbpaaSm
import Derived.Test.YtimknmofcnhbpaaEqual
set_option linter.unusedSimpArgs false
set_option linter.unusedVariables false
namespace Go.Proofs.Ytimknmofcnhbpaa
open Go.RowKit
theorem alive_all (w : World) : Calls Try.prog 13 #[.int .i64 2, .slice (some ⟨w.heap.size, 0, none⟩) 4 4, .slice (some ⟨w.heap.size + 1, 0, none⟩) 4 4] ((w.alloc (.cells #[.int .i64 7, .int .i64 8, .int .i64 9, .int .i64 6] 3)).alloc (.cells #[.int .i64 0, .int .i64 1, .int .i64 0, .int .i64 2] 3))
    fun e w' => Below w.heap.size w w' ∧ ∃ a k, e = .returned (.tuple #[.agg #[.int .i64 2, .int .i64 4, .slice a 2 k], .int .i64 0]) ∧ Rd w' (.slice a 2 k) [9, 8] := by
  have h1 : Rd ((w.alloc (.cells #[.int .i64 7, .int .i64 8, .int .i64 9, .int .i64 6] 3)).alloc (.cells #[.int .i64 0, .int .i64 1, .int .i64 0, .int .i64 2] 3)) (.slice (some ⟨w.heap.size, 0, none⟩) 4 4) [7, 8, 9, 6] := (Rd.built w [7, 8, 9, 6] _ 3 rfl 4 rfl (by decide)).alloc _
  have h2 : Rd ((w.alloc (.cells #[.int .i64 7, .int .i64 8, .int .i64 9, .int .i64 6] 3)).alloc (.cells #[.int .i64 0, .int .i64 1, .int .i64 0, .int .i64 2] 3)) (.slice (some ⟨w.heap.size + 1, 0, none⟩) 4 4) [0, 1, 0, 2] := by
    have := Rd.built (w.alloc (.cells #[.int .i64 7, .int .i64 8, .int .i64 9, .int .i64 6] 3)) [0, 1, 0, 2] _ 3 rfl 4 rfl (by decide)
    simpa using this
  refine (all_any 2 _ _ 4 4 4 4 _ _ _ h1 h2).mono ?_
  rintro e w' ⟨hb, ⟨h0, v', rfl, hr⟩ | ⟨h0, -⟩⟩
  · obtain ⟨a, k, rfl, -⟩ := hr.slice
    exact ⟨((((Below.refl w.heap.size w).alloc (Nat.le_refl _) _).alloc (by simp) _).trans (hb.mono (by simp; omega))), a, k, rfl, hr⟩
  · exact absurd (by decide : allR 2 [7, 8, 9, 6] [0, 1, 0, 2] = 0) h0
theorem alive_sm (w : World) (a : Option Addr) (k : Nat) (d : Option Addr) (h : Rd w (.slice a 2 k) [9, 8]) (h2 : Rd w (.slice d 1 1) [1]) : Calls Try.prog 11 #[.agg #[.int .i64 2, .int .i64 4, .slice a 2 k], .int .i64 1, .slice d 1 1] w
    fun e w' => Below w.heap.size w w' ∧ ∃ a k, e = .returned (.tuple #[.agg #[.int .i64 1, .int .i64 4, .slice a 1 k], .int .i64 0]) ∧ Rd w' (.slice a 1 k) [9] := by
  refine (sm_ok 2 4 1 _ _ [9, 8] [1] w h h2 ⟨by decide, by decide, by decide, by decide, by decide⟩ (by decide) (by decide) ⟨by decide, fun i hi => ?_⟩).mono ?_
  · obtain rfl : i = 0 := by simp at hi; omega
    decide
  · rintro e w' ⟨hb, v', rfl, ho⟩
    have hr := Rd.own ho
    obtain ⟨a, k, rfl, -⟩ := hr.slice
    exact ⟨hb, a, k, rfl, hr⟩
set_option maxHeartbeats 1600000 in
set_option maxRecDepth 20000 in
theorem alive_any (w : World) : Calls Try.prog 7 #[] w fun e w' => e = .returned (.bool true) ∧ Below w.heap.size w w' := by
  go_enter Try.func7, Try.ntmps7
  go_wp2_with fail
  refine (alive_all w).mono ?_
  rintro e w1 ⟨hb, a, k, rfl, hr⟩
  have H1 := Lib.hid hb
  have HR1 := Lib.hid hr
  have hbs := hb.size
  clear hb hr
  go_wp2_with fail
  have h1 : Rd ((w1.alloc (.cells #[.int .i64 2, .int .i64 4, .slice a 2 k] 27)).alloc (.cells #[.int .i64 1] 3)) (.slice a 2 k) [9, 8] := (HR1.out.alloc _).alloc _
  have h2 : Rd ((w1.alloc (.cells #[.int .i64 2, .int .i64 4, .slice a 2 k] 27)).alloc (.cells #[.int .i64 1] 3)) (.slice (some ⟨w1.heap.size + 1, 0, none⟩) 1 1) [1] := by
    have := Rd.built (w1.alloc (.cells #[.int .i64 2, .int .i64 4, .slice a 2 k] 27)) [1] _ 3 rfl 1 rfl (by decide)
    simpa using this
  have hB : Below w.heap.size w ((w1.alloc (.cells #[.int .i64 2, .int .i64 4, .slice a 2 k] 27)).alloc (.cells #[.int .i64 1] 3)) := (H1.out.alloc hbs _).alloc (by simp; omega) _
  refine (alive_sm _ a k _ h1 h2).mono ?_
  rintro e w2 ⟨hb2, a2, k2, rfl, hr2⟩
  have H2 := Lib.hid (hB.trans (hb2.mono (by simp; omega)))
  have HP2 : Hid (BX w2 w1.heap.size 2 4 (.slice a 2 k)) := BX.below (w := (w1.alloc (.cells #[.int .i64 2, .int .i64 4, .slice a 2 k] 27)).alloc (.cells #[.int .i64 1] 3)) ((BX.new w1 2 4 (.slice a 2 k)).below (B := w1.heap.size + 1) ((Below.refl _ _).alloc (by simp) _) (by omega)) hb2 (by simp; omega)
  have HR2 := Lib.hid hr2
  have HRp2 := Lib.hid (h1.below hb2 (Nat.le_refl _))
  have hs2 : w1.heap.size + 2 ≤ w2.heap.size := by have := hb2.size; simp at this; omega
  have hs3 : w1.heap.size < w2.heap.size := by omega
  clear hb2 hB h1 h2 hr2
  have d0 := HP2.out.c0
  have d1 := HP2.out.c1
  have d2 := HP2.out.c2
  go_wp2_with fail
  have N2 : Below w2.heap.size w2 ((w2.alloc (.cells #[.int .i64 1, .int .i64 4, .slice a2 1 k2] 27)).alloc (.cells #[.int .i64 9, .int .i64 8] 3)) := ((Below.refl _ _).alloc (Nat.le_refl _) _).alloc (by simp) _
  have h3 := HRp2.out.below N2 (Nat.le_refl _)
  have h4 : Rd ((w2.alloc (.cells #[.int .i64 1, .int .i64 4, .slice a2 1 k2] 27)).alloc (.cells #[.int .i64 9, .int .i64 8] 3)) (.slice (some ⟨w2.heap.size + 1, 0, none⟩) 2 2) [9, 8] := by
    have := Rd.built (w2.alloc (.cells #[.int .i64 1, .int .i64 4, .slice a2 1 k2] 27)) [9, 8] _ 3 rfl 2 rfl (by decide)
    simpa using this
  refine (equal_any _ _ _ _ _ h3 h4).mono ?_
  rintro e w3 ⟨rfl, hb3⟩
  rw [decide_eq_true (rfl : ([9, 8] : List Int) = [9, 8])]
  have H3 := Lib.hid (H2.out.trans ((N2.trans (hb3.mono (by simp; omega))).mono H2.out.size))
  have HP3 : Hid (BX w3 w1.heap.size 2 4 (.slice a 2 k)) := (HP2.out.below N2 hs3).below hb3 (by simp; omega)
  have HQ3 : Hid (BX w3 w2.heap.size 1 4 (.slice a2 1 k2)) := BX.below (w := (w2.alloc (.cells #[.int .i64 1, .int .i64 4, .slice a2 1 k2] 27)).alloc (.cells #[.int .i64 9, .int .i64 8] 3)) ((BX.new w2 1 4 (.slice a2 1 k2)).below (B := w2.heap.size + 1) ((Below.refl _ _).alloc (by simp) _) (by omega)) hb3 (by simp; omega)
  have HR3 := Lib.hid ((HR2.out.below N2 (Nat.le_refl _)).below hb3 (Nat.le_refl _))
  clear hb3 N2 h3 h4 d0 d1 d2
  have d1 := HP3.out.c1
  have c0 := HQ3.out.c0
  have c1 := HQ3.out.c1
  have c2 := HQ3.out.c2
  go_wp2_with fail
  have h4 : Rd (w3.alloc (.cells #[.int .i64 9] 3)) (.slice (some ⟨w3.heap.size, 0, none⟩) 1 1) [9] := Rd.built w3 [9] _ 3 rfl 1 rfl (by decide)
  refine (equal_any _ _ _ _ _ (HR3.out.alloc _) h4).mono ?_
  rintro e w4 ⟨rfl, hb4⟩
  rw [decide_eq_true (rfl : ([9] : List Int) = [9])]
  have H4 := Lib.hid (H3.out.trans ((((Below.refl _ _).alloc (Nat.le_refl _) _).trans (hb4.mono (by simp))).mono H3.out.size))
  have HQ4 : Hid (BX w4 w2.heap.size 1 4 (.slice a2 1 k2)) := BX.below (w := w3.alloc (.cells #[.int .i64 9] 3)) (HQ3.out.below ((Below.refl _ _).alloc (Nat.le_refl _) _) HQ3.out.lt) hb4 (by have := HQ3.out.lt; simp; omega)
  clear hb4 h4 c0 c1 c2 d1
  have c0 := HQ4.out.c0
  have c1 := HQ4.out.c1
  have c2 := HQ4.out.c2
  go_wp2_with fail
  refine (right_any 1 4 a2 1 k2 _).mono ?_
  rintro e w5 ⟨rfl, hb5⟩
  rw [decide_eq_true (by decide : RightP 1 4 1)]
  have H5 := Lib.hid (H4.out.trans (hb5.mono H4.out.size))
  clear hb5
  go_wp2_with fail
  go_ret
  exact ⟨rfl, H5.out⟩
end Go.Proofs.Ytimknmofcnhbpaa
