/- The walk of RuinOther. No condition. -/
import Derived.Test.YtkppkfbgolmonaaLaws
set_option linter.unusedSimpArgs false
set_option linter.unusedVariables false
namespace Go.Proofs.Ytkppkfbgolmonaa.ruinOther
open Go.RowKit Go.Proofs.Ytkppkfbgolmonaa
theorem wrap_out (top has : Int) (h1 : 1 ≤ top) (h2 : top ≤ 16) (hh : has < 0 ∨ top < has) (b1 : -9223372036854775808 ≤ has) (b2 : has ≤ 9223372036854775807) : ¬ (0 ≤ wrap64 (top - has) ∧ wrap64 (top - has) ≤ top) := by
  unfold wrap64; omega
theorem swap (a b c : Int) : Ok3 a b c ↔ Ok3 b a c := by unfold Ok3; omega
theorem same (win lose top has : Int) (b1 : -9223372036854775808 ≤ has) (b2 : has ≤ 9223372036854775807) :
    ((wellZ win lose top has).2 = 0 ∧ (wellZ lose win top (wrap64 (top - has))).2 = 0 ∧ (wellZ win lose top has).1.2 = (wellZ lose win top (wrap64 (top - has))).1.2 ∧
      (wellZ win lose top has).1.1 + (wellZ lose win top (wrap64 (top - has))).1.1 = (wellZ win lose top has).1.2 ∧ (wellZ win lose top has).1.2 ≤ 1000000000000000000) ∨
    ((wellZ win lose top has).2 ≠ 0 ∧ (wellZ lose win top (wrap64 (top - has))).2 = (wellZ win lose top has).2) := by
  unfold wellZ
  by_cases h : Ok3 win lose top
  · rw [if_pos h, if_pos ((swap _ _ _).1 h)]
    have h1 := h
    unfold Ok3 at h1
    by_cases hh : 0 ≤ has ∧ has ≤ top
    · have hw : wrap64 (top - has) = top - has := by unfold wrap64; omega
      rw [if_pos hh, hw, if_pos (by omega)]
      left
      obtain ⟨a, b, c⟩ := other_law win.toNat lose.toNat top.toNat has.toNat (by omega) (by omega) (by omega) (by omega) (by omega) (by omega) (by omega)
      rw [show (top - has).toNat = top.toNat - has.toNat by omega]
      exact ⟨rfl, rfl, a.symm, b, c⟩
    · rw [if_neg hh, if_neg (wrap_out top has (by omega) (by omega) (by omega) b1 b2)]
      exact .inr ⟨by decide, rfl⟩
  · rw [if_neg h, if_neg (fun hh => h ((swap _ _ _).2 hh))]
    exact .inr ⟨by decide, rfl⟩
set_option maxHeartbeats 800000 in
theorem walk (win lose top has : Int) (w : World) (w0 : (Lit.int .i64 win).wf = true) (w1 : (Lit.int .i64 lose).wf = true) (w2 : (Lit.int .i64 top).wf = true) (w3 : (Lit.int .i64 has).wf = true) :
    Calls Try.prog 4 #[.int .i64 win, .int .i64 lose, .int .i64 top, .int .i64 has] w fun e w' => e = .returned (.bool true) ∧ Below w.heap.size w w' := by
  obtain ⟨b1, b2⟩ := bounds_i64 w3
  go_enter Try.func4, Try.ntmps4
  go_wp2_with fail
  refine (alive_any _).mono ?_
  rintro e w1 ⟨rfl, hb1⟩
  go_wp2_with fail
  refine (well_any _ _ _ _ _).mono ?_
  rintro e w2 ⟨rfl, hb2⟩
  have HS := Lib.hid (same win lose top has b1 b2)
  generalize wellZ win lose top has = q1 at *
  obtain ⟨⟨x1, y1⟩, c1⟩ := q1
  simp only [frv]
  go_wp2_with fail
  refine (well_any _ _ _ _ _).mono ?_
  rintro e w3 ⟨rfl, hb3⟩
  generalize wellZ lose win top (wrap64 (top - has)) = q2 at *
  obtain ⟨⟨x2, y2⟩, c2⟩ := q2
  simp only [frv]
  have k1 := heap_kept hb3
  have B2 := hb1.trans (hb2.mono hb1.size)
  have b3 := (Below.refl w2.heap.size w2).alloc (Nat.le_refl _) (.cells #[.int .i64 x1, .int .i64 y1] 24) |>.trans (hb3.mono (by simp))
  have B3 := Lib.hid (B2.trans (b3.mono B2.size))
  clear b3 B2 hb1 hb2 hb3
  rcases HS.out with ⟨e1, e2, e3, e4, e5⟩ | ⟨e1, e2⟩
  · simp only at e1 e2 e3 e4 e5
    subst e1 e2 e3
    have n1 : (y1 : Int) ≤ 1000000000000000000 := by omega
    have n2 : (x1 : Int) + (x2 : Int) = (y1 : Int) := by omega
    have A0 := fun o => (pair_alloc k1 o).1
    have A1 := fun o => (pair_alloc k1 o).2
    clear HS e4 e5 k1
    go_wp2_with fail
    go_ret
    exact ⟨by simp, B3.out.alloc B3.out.size _⟩
  · simp only at e1 e2
    subst e2
    have n1 : (c2 != 0) = true := by rw [bne_iff_ne]; exact e1
    have n2 : (c2 == c2) = true := by simp
    clear HS k1 e1
    go_wp2_with fail
    go_ret
    exact ⟨by simp, B3.out.alloc B3.out.size _⟩
end Go.Proofs.Ytkppkfbgolmonaa.ruinOther
