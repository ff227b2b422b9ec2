/- join.Pools whole; alive7 is true. No condition. -/
import Derived.Test.YtkebahdapkjacaaPools2
import Derived.Test.YtkebahdapkjacaaCount
import Derived.Test.YtkebahdapkjacaaEqual
set_option linter.unusedSimpArgs false
set_option linter.unusedVariables false
namespace Go.Proofs.Ytkebahdapkjacaa
open Go.RowKit
theorem pools_any (ra ca rb cb : Int) (aa ab aw ao : Option Addr) (na nb nw no ka kb kw ko : Nat) (la lb wh wo : List Int) (w : World) (h1 : Rd w (.slice aa na ka) la) (h2 : Rd w (.slice ab nb kb) lb) (h3 : Rd w (.slice aw nw kw) wh) (h4 : Rd w (.slice ao no ko) wo) :
    Calls Try.prog 11 #[.agg #[.int .i64 ra, .int .i64 ca, .slice aa na ka], .agg #[.int .i64 rb, .int .i64 cb, .slice ab nb kb], .slice aw nw kw, .slice ao no ko] w (PoolsPost w ra ca rb cb la lb wh wo) := by
  have hl1 : la.length = na := by obtain ⟨_, _, he, -⟩ := h1.slice; cases he; rfl
  have hl2 : lb.length = nb := by obtain ⟨_, _, he, -⟩ := h2.slice; cases he; rfl
  have hl3 : wh.length = nw := by obtain ⟨_, _, he, -⟩ := h3.slice; cases he; rfl
  have hl4 : wo.length = no := by obtain ⟨_, _, he, -⟩ := h4.slice; cases he; rfl
  by_cases he : RightP ra ca na ∧ RightP rb cb nb ∧ ra = rb
  · obtain ⟨hA, hB, rfl⟩ := he
    exact pools_run ra ca cb aa ab aw ao na nb nw no ka kb kw ko la lb wh wo w h1 h2 h3 h4 hl1 hl2 hl3 hl4 hA hB
  · exact pools_form ra ca rb cb aa ab na nb ka kb la lb wh wo _ _ w hl1 hl2 he
theorem alive_run : prun (st0 3 2 [1, 2] [8, 9]) [3, 2] [1, 0] (pN 2 3 2) = some ⟨2, 1, [2], [8], [9, 1]⟩ := by rfl
theorem alive_err : pErr 2 3 2 2 [1, 2] [8, 9] [3, 2] [1, 0] = 0 := by decide
theorem alive_pools (w : World) (a0 a1 a2 a3 : Option Addr) (h1 : Rd w (.slice a0 2 2) [1, 2]) (h2 : Rd w (.slice a1 2 2) [8, 9]) (h3 : Rd w (.slice a2 2 2) [3, 2]) (h4 : Rd w (.slice a3 2 2) [1, 0]) :
    Calls Try.prog 11 #[.agg #[.int .i64 2, .int .i64 3, .slice a0 2 2], .agg #[.int .i64 2, .int .i64 2, .slice a1 2 2], .slice a2 2 2, .slice a3 2 2] w fun e w' => Below w.heap.size w w' ∧ ∃ a k, e = .returned (.tuple #[.agg #[.int .i64 2, .int .i64 5, .slice a 2 k], .int .i64 0]) ∧ Rd w' (.slice a 2 k) [9, 1] := by
  refine (pools_any 2 3 2 2 a0 a1 a2 a3 2 2 2 2 2 2 2 2 _ _ _ _ w h1 h2 h3 h4).mono ?_
  rintro e w' ⟨hb, ⟨-, t, v', ht, rfl, hr⟩ | ⟨h0, -⟩⟩
  · rw [alive_run] at ht
    cases ht
    obtain ⟨a, k, rfl, -⟩ := (Rd.own hr).slice
    exact ⟨hb, a, k, rfl, Rd.own hr⟩
  · exact absurd alive_err h0
set_option maxHeartbeats 1600000 in
set_option maxRecDepth 20000 in
theorem alive_any (w : World) : Calls Try.prog 6 #[] w fun e w' => e = .returned (.bool true) ∧ Below w.heap.size w w' := by
  have HC := Lib.hid (fun w => count_ok 5 4 3 2 w (by decide) (by decide) (by decide) (by decide))
  rw [show pas 5 2 * pas 4 (3 - 2) = 40 by decide] at HC
  go_enter Try.func6, Try.ntmps6
  go_wp2_with fail
  have E1 : Rd (w.alloc (.cells #[.int .i64 1, .int .i64 2] 3)) (.slice (some ⟨w.heap.size, 0, none⟩) 2 2) [1, 2] := Rd.built w [1, 2] _ 3 rfl 2 rfl (by decide)
  have E2 : Rd ((w.alloc (.cells #[.int .i64 1, .int .i64 2] 3)).alloc (.cells #[.int .i64 8, .int .i64 9] 3)) (.slice (some ⟨w.heap.size + 1, 0, none⟩) 2 2) [8, 9] := by
    have := Rd.built (w.alloc (.cells #[.int .i64 1, .int .i64 2] 3)) [8, 9] _ 3 rfl 2 rfl (by decide)
    simpa using this
  have E3 : Rd (((w.alloc (.cells #[.int .i64 1, .int .i64 2] 3)).alloc (.cells #[.int .i64 8, .int .i64 9] 3)).alloc (.cells #[.int .i64 3, .int .i64 2] 3)) (.slice (some ⟨w.heap.size + 1 + 1, 0, none⟩) 2 2) [3, 2] := by
    have := Rd.built ((w.alloc (.cells #[.int .i64 1, .int .i64 2] 3)).alloc (.cells #[.int .i64 8, .int .i64 9] 3)) [3, 2] _ 3 rfl 2 rfl (by decide)
    simpa using this
  have E4 : Rd ((((w.alloc (.cells #[.int .i64 1, .int .i64 2] 3)).alloc (.cells #[.int .i64 8, .int .i64 9] 3)).alloc (.cells #[.int .i64 3, .int .i64 2] 3)).alloc (.cells #[.int .i64 1, .int .i64 0] 3)) (.slice (some ⟨w.heap.size + 1 + 1 + 1, 0, none⟩) 2 2) [1, 0] := by
    have := Rd.built (((w.alloc (.cells #[.int .i64 1, .int .i64 2] 3)).alloc (.cells #[.int .i64 8, .int .i64 9] 3)).alloc (.cells #[.int .i64 3, .int .i64 2] 3)) [1, 0] _ 3 rfl 2 rfl (by decide)
    simpa using this
  have HB0 : Hid (Below w.heap.size w ((((w.alloc (.cells #[.int .i64 1, .int .i64 2] 3)).alloc (.cells #[.int .i64 8, .int .i64 9] 3)).alloc (.cells #[.int .i64 3, .int .i64 2] 3)).alloc (.cells #[.int .i64 1, .int .i64 0] 3))) := ((((Below.refl _ _).alloc (Nat.le_refl _) _).alloc (by simp) _).alloc (by simp; omega) _).alloc (by simp; omega) _
  refine (alive_pools _ _ _ _ _ (((E1.alloc _).alloc _).alloc _) ((E2.alloc _).alloc _) (E3.alloc _) E4).mono ?_
  rintro e w2 ⟨hb2, a2, k2, rfl, hr2⟩
  have H2 := Lib.hid (HB0.out.trans (hb2.mono HB0.out.size))
  have HR2 := Lib.hid hr2
  have hbs := H2.out.size
  clear hb2 hr2 E1 E2 E3 E4
  go_wp2_with fail
  refine (HC.out _).mono ?_
  rintro e w3 ⟨rfl, hb3⟩
  have HB2' := Lib.hid (H2.out.alloc hbs (.cells #[.int .i64 2, .int .i64 5, .slice a2 2 k2] 28))
  have HP3 : Hid (BX w3 w2.heap.size 2 5 (.slice a2 2 k2)) := (BX.new w2 _ _ _).below hb3 (BX.new w2 _ _ _).lt
  have HR3 := Lib.hid ((HR2.out.alloc (.cells #[.int .i64 2, .int .i64 5, .slice a2 2 k2] 28)).below hb3 (Nat.le_refl _))
  have H3 := Lib.hid (HB2'.out.trans (hb3.mono HB2'.out.size))
  clear hb3
  have c1 := HP3.out.c1
  have c2 := HP3.out.c2
  go_wp2_with fail
  have E5 : Rd (w3.alloc (.cells #[.int .i64 9, .int .i64 1] 3)) (.slice (some ⟨w3.heap.size, 0, none⟩) 2 2) [9, 1] := Rd.built w3 [9, 1] _ 3 rfl 2 rfl (by decide)
  refine (equal_any _ _ _ _ _ (HR3.out.alloc _) E5).mono ?_
  rintro e w4 ⟨rfl, hb4⟩
  rw [decide_eq_true (rfl : ([9, 1] : List Int) = [9, 1])]
  have HB3' := Lib.hid (H3.out.alloc H3.out.size (.cells #[.int .i64 9, .int .i64 1] 3))
  have HP4 := Lib.hid ((HP3.out.below ((Below.refl _ _).alloc (Nat.le_refl _) (.cells #[.int .i64 9, .int .i64 1] 3)) HP3.out.lt).below hb4 (Nat.lt_succ_of_lt HP3.out.lt |> (by simpa using ·)))
  have H4 := Lib.hid (HB3'.out.trans (hb4.mono HB3'.out.size))
  clear hb4 E5 c1 c2
  have c1 := HP4.out.c1
  go_wp2_with fail
  go_ret
  exact ⟨rfl, H4.out⟩
end Go.Proofs.Ytkebahdapkjacaa
