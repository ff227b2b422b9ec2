/- The walk of RuinMore. No condition. -/
import Derived.Test.YtkppkfbgolmonaaLaws
set_option linter.unusedSimpArgs false
set_option linter.unusedVariables false
namespace Go.Proofs.Ytkppkfbgolmonaa.ruinMore
open Go.RowKit Go.Proofs.Ytkppkfbgolmonaa
theorem less_any (x1 x2 y1 y2 : Nat) (h1 : x1 * y2 ≤ 1000000000000000000) (h2 : y1 * x2 ≤ 1000000000000000000) (h : x1 * y2 ≤ y1 * x2) (w : World) :
    Calls Try.prog 11 #[.agg #[.int .i64 x1, .int .i64 x2], .agg #[.int .i64 y1, .int .i64 y2]] w fun e w' => e = .returned (.bool true) ∧ Below w.heap.size w w' := by
  have a1 : (x1 : Int) * (y2 : Int) ≤ 1000000000000000000 := by rw [← Int.natCast_mul]; omega
  have a2 : (y1 : Int) * (x2 : Int) ≤ 1000000000000000000 := by rw [← Int.natCast_mul]; omega
  have a3 : 0 ≤ (x1 : Int) * (y2 : Int) := Int.mul_nonneg (by omega) (by omega)
  have a4 : 0 ≤ (y1 : Int) * (x2 : Int) := Int.mul_nonneg (by omega) (by omega)
  have a5 : (x1 : Int) * (y2 : Int) ≤ (y1 : Int) * (x2 : Int) := by rw [← Int.natCast_mul, ← Int.natCast_mul]; omega
  clear h1 h2 h
  go_enter Try.func11, Try.ntmps11
  go_wp2_with fail
  go_ret
  exact ⟨by simp, ((Below.refl _ _).alloc (Nat.le_refl _) _).alloc (by simp) _⟩
theorem less_of {x y : Nat × Nat} (h : lessB x y = true) : x.1 * y.2 ≤ y.1 * x.2 ∧ x.1 * y.2 ≤ 1000000000000000000 ∧ y.1 * x.2 ≤ 1000000000000000000 := by
  simp only [lessB, Bool.and_eq_true, decide_eq_true_eq] at h
  exact ⟨h.1.1, h.1.2, h.2⟩
theorem kept_alloc {w : World} {b : Nat} {o : Obj} (h : w.heap[b]? = some o) (p : Obj) : (w.alloc p).heap[b]? = some o := by
  rw [Below.heap_alloc _ _ _ (lt_of_block h)]; exact h
def Facts (win lose top has : Int) : Prop :=
  (wellZ win lose top has).2 ≠ 0 ∨ 7 < top ∨
  ((wellZ win lose top has).2 = 0 ∧ top ≤ 7 ∧ (wellZ win lose (top + 1) has).2 = 0 ∧ lessB (wellZ win lose (top + 1) has).1 (wellZ win lose top has).1 = true ∧
    ((wellZ win lose top (has + 1)).2 ≠ 0 ∨ (wellZ win lose top (has + 1)).2 = 0 ∧ lessB (wellZ win lose top has).1 (wellZ win lose top (has + 1)).1 = true) ∧
    ((wellZ (win + 1) lose top has).2 ≠ 0 ∨ (wellZ (win + 1) lose top has).2 = 0 ∧ lessB (wellZ win lose top has).1 (wellZ (win + 1) lose top has).1 = true))
theorem wz_ok (win lose top has : Int) (h : Ok3 win lose top) (h1 : 0 ≤ has) (h2 : has ≤ top) : wellZ win lose top has = (wellN win.toNat lose.toNat top.toNat has.toNat, 0) := by
  unfold wellZ; rw [if_pos h, if_pos ⟨h1, h2⟩]
theorem wz_no (win lose top has : Int) (h : ¬ (Ok3 win lose top ∧ 0 ≤ has ∧ has ≤ top)) : (wellZ win lose top has).2 ≠ 0 := by
  unfold wellZ
  by_cases h1 : Ok3 win lose top
  · rw [if_pos h1, if_neg (fun h2 => h ⟨h1, h2⟩)]; decide
  · rw [if_neg h1]; decide
theorem facts (win lose top has : Int) : Facts win lose top has := by
  unfold Facts
  by_cases h : Ok3 win lose top ∧ 0 ≤ has ∧ has ≤ top
  · obtain ⟨h, hh0, hh1⟩ := h
    by_cases ht : 7 < top
    · exact .inr (.inl ht)
    · have h1 := h
      unfold Ok3 at h1
      have hm := all4_out more_all win.toNat lose.toNat top.toNat has.toNat (by omega) (by omega) (by omega) (by omega) (by omega) (by omega) (by omega)
      simp only [moreB, Bool.and_eq_true, Bool.or_eq_true, decide_eq_true_eq] at hm
      obtain ⟨⟨m1, m2⟩, m3⟩ := hm
      right; right
      rw [wz_ok win lose top has h hh0 hh1, wz_ok win lose (top + 1) has (by unfold Ok3; omega) hh0 (by omega)]
      refine ⟨rfl, by omega, rfl, ?_, ?_, ?_⟩
      · rw [show (top + 1).toNat = top.toNat + 1 by omega]; exact m3
      · by_cases e : has = top
        · left; exact wz_no _ _ _ _ (by omega)
        · right; rw [wz_ok win lose top (has + 1) h (by omega) (by omega)]
          refine ⟨rfl, ?_⟩
          rw [show (has + 1).toNat = has.toNat + 1 by omega]
          rcases m1 with m | m
          · omega
          · exact m
      · by_cases e : win = 9
        · left; exact wz_no _ _ _ _ (by unfold Ok3; omega)
        · right; rw [wz_ok (win + 1) lose top has (by unfold Ok3; omega) hh0 hh1]
          refine ⟨rfl, ?_⟩
          rw [show (win + 1).toNat = win.toNat + 1 by omega]
          rcases m2 with m | m
          · omega
          · exact m
  · left; exact wz_no _ _ _ _ h
set_option maxRecDepth 10000 in
set_option maxHeartbeats 3200000 in
theorem walk (win lose top has : Int) (w : World) (w0 : (Lit.int .i64 win).wf = true) (w1 : (Lit.int .i64 lose).wf = true) (w2 : (Lit.int .i64 top).wf = true) (w3 : (Lit.int .i64 has).wf = true) :
    Calls Try.prog 5 #[.int .i64 win, .int .i64 lose, .int .i64 top, .int .i64 has] w fun e w' => e = .returned (.bool true) ∧ Below w.heap.size w w' := by
  have HF := Lib.hid (facts win lose top has)
  have HIN : Hid ((wellZ win lose top has).2 = 0 → Ok3 win lose top ∧ 0 ≤ has ∧ has ≤ top) := fun h => by
    unfold wellZ at h
    split at h
    · split at h
      · rename_i h1 h2; exact ⟨h1, h2⟩
      · cases h
    · cases h
  clear w0 w1 w2 w3
  go_enter Try.func5, Try.ntmps5
  go_wp2_with fail
  refine (alive_any _).mono ?_
  rintro e w1 ⟨rfl, hb1⟩
  go_wp2_with fail
  refine (well_any _ _ _ _ _).mono ?_
  rintro e w2 ⟨rfl, hb2⟩
  have B2 := hb1.trans (hb2.mono hb1.size)
  obtain ⟨q, hq⟩ : ∃ q, wellZ win lose top has = q := ⟨_, rfl⟩
  rw [hq] at HIN ⊢
  obtain ⟨⟨x1, y1⟩, c1⟩ := q
  have HQ := Lib.hid hq; clear hq hb1 hb2
  simp only [frv]
  by_cases hc : c1 = 0 ∧ top ≤ 7
  · obtain ⟨hc1, ht7⟩ := hc
    subst hc1
    obtain ⟨hok, hh0, hh1⟩ := HIN.out rfl
    have hok2 := hok
    obtain ⟨o1, o2, o3, o4, o5, o6⟩ := hok2
    have hF := HF.out
    unfold Facts at hF
    rw [HQ.out] at hF
    rcases hF with hF | hF | ⟨_, _, t1, t2, t3, t4⟩
    · exact absurd rfl hF
    · omega
    have T1 := Lib.hid t1; have T2 := Lib.hid t2; have T3 := Lib.hid t3; have T4 := Lib.hid t4
    clear t1 t2 t3 t4 hok HF HIN
    go_wp2_with fail
    refine (well_any _ _ _ _ _).mono ?_
    rintro e w3 ⟨rfl, hb3⟩
    have k1 := heap_kept hb3
    have b3 := (Below.refl w2.heap.size w2).alloc (Nat.le_refl _) (.cells #[.int .i64 x1, .int .i64 y1] 24) |>.trans (hb3.mono (by simp))
    have B3 := B2.trans (b3.mono B2.size)
    clear hb3 b3 B2
    generalize wellZ win lose top (has + 1) = q2 at *
    obtain ⟨⟨x2, y2⟩, c2⟩ := q2
    simp only [frv]
    go_wp2_with fail
    refine (well_any _ _ _ _ _).mono ?_
    rintro e w4 ⟨rfl, hb4⟩
    have k2 := heap_kept hb4
    have b4 := (Below.refl w3.heap.size w3).alloc (Nat.le_refl _) (.cells #[.int .i64 x2, .int .i64 y2] 24) |>.trans (hb4.mono (by simp))
    have k1 := kept k1 b4
    have B4 := B3.trans (b4.mono B3.size)
    clear hb4 b4 B3
    generalize wellZ (win + 1) lose top has = q3 at *
    obtain ⟨⟨x3, y3⟩, c3⟩ := q3
    simp only [frv]
    go_wp2_with fail
    refine (well_any _ _ _ _ _).mono ?_
    rintro e w5 ⟨rfl, hb5⟩
    have k3 := heap_kept hb5
    have b5 := (Below.refl w4.heap.size w4).alloc (Nat.le_refl _) (.cells #[.int .i64 x3, .int .i64 y3] 24) |>.trans (hb5.mono (by simp))
    have k1 := kept k1 b5
    have k2 := kept k2 b5
    have B5 := B4.trans (b5.mono B4.size)
    clear hb5 b5 B4
    generalize wellZ win lose (top + 1) has = q4 at *
    obtain ⟨⟨x4, y4⟩, c4⟩ := q4
    simp only [frv]
    have hc4 := T1.out
    simp only at hc4
    subst hc4
    have K1 := Lib.hid (kept_alloc k1 (.cells #[.int .i64 x4, .int .i64 y4] 24))
    have K2 := Lib.hid (kept_alloc k2 (.cells #[.int .i64 x4, .int .i64 y4] 24))
    have K3 := Lib.hid (kept_alloc k3 (.cells #[.int .i64 x4, .int .i64 y4] 24))
    have K4 := Lib.hid (heap_alloc_new w5 (.cells #[.int .i64 x4, .int .i64 y4] 24))
    have A0 := fun o => (pair_alloc k1 o).1
    have A1 := fun o => (pair_alloc k1 o).2
    have A2 := fun o => (pair_alloc k2 o).1
    have A3 := fun o => (pair_alloc k2 o).2
    have A4 := fun o => (pair_alloc k3 o).1
    have A5 := fun o => (pair_alloc k3 o).2
    have B6 := B5.alloc B5.size (.cells #[.int .i64 x4, .int .i64 y4] 24)
    clear k1 k2 k3 B5
    obtain ⟨l1, l2, l3⟩ := less_of T2.out
    have L4 := Lib.hid (fun w => less_any x4 y4 x1 y1 l2 l3 l1 w)
    clear l1 l2 l3
    rcases T3.out with e2 | ⟨e2, e2b⟩
    · rcases T4.out with e3 | ⟨e3, e3b⟩
      · have e2 : c2 ≠ 0 := e2
        have e2' : (c2 != 0) = true := by rw [bne_iff_ne]; exact e2
        have e3 : c3 ≠ 0 := e3
        have e3' : (c3 != 0) = true := by rw [bne_iff_ne]; exact e3
        go_wp2_with fail
        refine (L4.out _).mono ?_
        rintro e w7 ⟨rfl, hb7⟩
        have HB7 := Lib.hid (B6.trans (hb7.mono B6.size))
        have m1 := kept K1.out hb7
        have m2 := kept K2.out hb7
        have m3 := kept K3.out hb7
        have m4 := kept K4.out hb7
        have K1 := Lib.hid m1
        have K2 := Lib.hid m2
        have K3 := Lib.hid m3
        have K4 := Lib.hid m4
        obtain ⟨a0, a1, _, _⟩ := pair_cells m1
        obtain ⟨a2, a3, _, _⟩ := pair_cells m2
        obtain ⟨a4, a5, _, _⟩ := pair_cells m3
        obtain ⟨a6, a7, _, _⟩ := pair_cells m4
        clear hb7 m1 m2 m3 m4
        go_wp2_with fail
        go_ret
        exact ⟨by simp, HB7.out⟩
      · have e2 : c2 ≠ 0 := e2
        have e2' : (c2 != 0) = true := by rw [bne_iff_ne]; exact e2
        have e3 : c3 = 0 := e3
        subst e3
        obtain ⟨l1, l2, l3⟩ := less_of e3b
        have L3 := Lib.hid (fun w => less_any x1 y1 x3 y3 l2 l3 l1 w)
        clear l1 l2 l3 e3b
        go_wp2_with fail
        refine (L3.out _).mono ?_
        rintro e w7 ⟨rfl, hb7⟩
        have HB7 := Lib.hid (B6.trans (hb7.mono B6.size))
        have m1 := kept K1.out hb7
        have m2 := kept K2.out hb7
        have m3 := kept K3.out hb7
        have m4 := kept K4.out hb7
        have K1 := Lib.hid m1
        have K2 := Lib.hid m2
        have K3 := Lib.hid m3
        have K4 := Lib.hid m4
        obtain ⟨a0, a1, _, _⟩ := pair_cells m1
        obtain ⟨a2, a3, _, _⟩ := pair_cells m2
        obtain ⟨a4, a5, _, _⟩ := pair_cells m3
        obtain ⟨a6, a7, _, _⟩ := pair_cells m4
        clear hb7 m1 m2 m3 m4
        go_wp2_with fail
        refine (L4.out _).mono ?_
        rintro e w8 ⟨rfl, hb8⟩
        have HB8 := Lib.hid (HB7.out.trans (hb8.mono HB7.out.size))
        have m1 := kept K1.out hb8
        have m2 := kept K2.out hb8
        have m3 := kept K3.out hb8
        have m4 := kept K4.out hb8
        have K1 := Lib.hid m1
        have K2 := Lib.hid m2
        have K3 := Lib.hid m3
        have K4 := Lib.hid m4
        obtain ⟨a0, a1, _, _⟩ := pair_cells m1
        obtain ⟨a2, a3, _, _⟩ := pair_cells m2
        obtain ⟨a4, a5, _, _⟩ := pair_cells m3
        obtain ⟨a6, a7, _, _⟩ := pair_cells m4
        clear hb8 m1 m2 m3 m4
        go_wp2_with fail
        go_ret
        exact ⟨by simp, HB8.out⟩
    · rcases T4.out with e3 | ⟨e3, e3b⟩
      · have e2 : c2 = 0 := e2
        subst e2
        obtain ⟨l1, l2, l3⟩ := less_of e2b
        have L2 := Lib.hid (fun w => less_any x1 y1 x2 y2 l2 l3 l1 w)
        clear l1 l2 l3 e2b
        have e3 : c3 ≠ 0 := e3
        have e3' : (c3 != 0) = true := by rw [bne_iff_ne]; exact e3
        go_wp2_with fail
        refine (L2.out _).mono ?_
        rintro e w7 ⟨rfl, hb7⟩
        have HB7 := Lib.hid (B6.trans (hb7.mono B6.size))
        have m1 := kept K1.out hb7
        have m2 := kept K2.out hb7
        have m3 := kept K3.out hb7
        have m4 := kept K4.out hb7
        have K1 := Lib.hid m1
        have K2 := Lib.hid m2
        have K3 := Lib.hid m3
        have K4 := Lib.hid m4
        obtain ⟨a0, a1, _, _⟩ := pair_cells m1
        obtain ⟨a2, a3, _, _⟩ := pair_cells m2
        obtain ⟨a4, a5, _, _⟩ := pair_cells m3
        obtain ⟨a6, a7, _, _⟩ := pair_cells m4
        clear hb7 m1 m2 m3 m4
        go_wp2_with fail
        refine (L4.out _).mono ?_
        rintro e w8 ⟨rfl, hb8⟩
        have HB8 := Lib.hid (HB7.out.trans (hb8.mono HB7.out.size))
        have m1 := kept K1.out hb8
        have m2 := kept K2.out hb8
        have m3 := kept K3.out hb8
        have m4 := kept K4.out hb8
        have K1 := Lib.hid m1
        have K2 := Lib.hid m2
        have K3 := Lib.hid m3
        have K4 := Lib.hid m4
        obtain ⟨a0, a1, _, _⟩ := pair_cells m1
        obtain ⟨a2, a3, _, _⟩ := pair_cells m2
        obtain ⟨a4, a5, _, _⟩ := pair_cells m3
        obtain ⟨a6, a7, _, _⟩ := pair_cells m4
        clear hb8 m1 m2 m3 m4
        go_wp2_with fail
        go_ret
        exact ⟨by simp, HB8.out⟩
      · have e2 : c2 = 0 := e2
        subst e2
        obtain ⟨l1, l2, l3⟩ := less_of e2b
        have L2 := Lib.hid (fun w => less_any x1 y1 x2 y2 l2 l3 l1 w)
        clear l1 l2 l3 e2b
        have e3 : c3 = 0 := e3
        subst e3
        obtain ⟨l1, l2, l3⟩ := less_of e3b
        have L3 := Lib.hid (fun w => less_any x1 y1 x3 y3 l2 l3 l1 w)
        clear l1 l2 l3 e3b
        go_wp2_with fail
        refine (L2.out _).mono ?_
        rintro e w7 ⟨rfl, hb7⟩
        have HB7 := Lib.hid (B6.trans (hb7.mono B6.size))
        have m1 := kept K1.out hb7
        have m2 := kept K2.out hb7
        have m3 := kept K3.out hb7
        have m4 := kept K4.out hb7
        have K1 := Lib.hid m1
        have K2 := Lib.hid m2
        have K3 := Lib.hid m3
        have K4 := Lib.hid m4
        obtain ⟨a0, a1, _, _⟩ := pair_cells m1
        obtain ⟨a2, a3, _, _⟩ := pair_cells m2
        obtain ⟨a4, a5, _, _⟩ := pair_cells m3
        obtain ⟨a6, a7, _, _⟩ := pair_cells m4
        clear hb7 m1 m2 m3 m4
        go_wp2_with fail
        refine (L3.out _).mono ?_
        rintro e w8 ⟨rfl, hb8⟩
        have HB8 := Lib.hid (HB7.out.trans (hb8.mono HB7.out.size))
        have m1 := kept K1.out hb8
        have m2 := kept K2.out hb8
        have m3 := kept K3.out hb8
        have m4 := kept K4.out hb8
        have K1 := Lib.hid m1
        have K2 := Lib.hid m2
        have K3 := Lib.hid m3
        have K4 := Lib.hid m4
        obtain ⟨a0, a1, _, _⟩ := pair_cells m1
        obtain ⟨a2, a3, _, _⟩ := pair_cells m2
        obtain ⟨a4, a5, _, _⟩ := pair_cells m3
        obtain ⟨a6, a7, _, _⟩ := pair_cells m4
        clear hb8 m1 m2 m3 m4
        go_wp2_with fail
        refine (L4.out _).mono ?_
        rintro e w9 ⟨rfl, hb9⟩
        have HB9 := Lib.hid (HB8.out.trans (hb9.mono HB8.out.size))
        have m1 := kept K1.out hb9
        have m2 := kept K2.out hb9
        have m3 := kept K3.out hb9
        have m4 := kept K4.out hb9
        have K1 := Lib.hid m1
        have K2 := Lib.hid m2
        have K3 := Lib.hid m3
        have K4 := Lib.hid m4
        obtain ⟨a0, a1, _, _⟩ := pair_cells m1
        obtain ⟨a2, a3, _, _⟩ := pair_cells m2
        obtain ⟨a4, a5, _, _⟩ := pair_cells m3
        obtain ⟨a6, a7, _, _⟩ := pair_cells m4
        clear hb9 m1 m2 m3 m4
        go_wp2_with fail
        go_ret
        exact ⟨by simp, HB9.out⟩
  · have hbad : (c1 != 0) = true ∨ 7 < top := by
      by_cases h : c1 = 0
      · right; omega
      · left; rw [bne_iff_ne]; exact h
    clear hc HIN HF HQ
    go_wp2_with fail
    refine (well_any _ _ _ _ _).mono ?_
    rintro e w3 ⟨rfl, hb3⟩
    have b3 := (Below.refl w2.heap.size w2).alloc (Nat.le_refl _) (.cells #[.int .i64 x1, .int .i64 y1] 24) |>.trans (hb3.mono (by simp))
    have B3 := B2.trans (b3.mono B2.size)
    clear hb3 b3 B2
    generalize wellZ _ _ _ _ = q2 at *
    obtain ⟨⟨x2, y2⟩, c2⟩ := q2
    simp only [frv]
    go_wp2_with fail
    refine (well_any _ _ _ _ _).mono ?_
    rintro e w4 ⟨rfl, hb4⟩
    have b4 := (Below.refl w3.heap.size w3).alloc (Nat.le_refl _) (.cells #[.int .i64 x2, .int .i64 y2] 24) |>.trans (hb4.mono (by simp))
    have B4 := B3.trans (b4.mono B3.size)
    clear hb4 b4 B3
    generalize wellZ _ _ _ _ = q3 at *
    obtain ⟨⟨x3, y3⟩, c3⟩ := q3
    simp only [frv]
    go_wp2_with fail
    refine (well_any _ _ _ _ _).mono ?_
    rintro e w5 ⟨rfl, hb5⟩
    have b5 := (Below.refl w4.heap.size w4).alloc (Nat.le_refl _) (.cells #[.int .i64 x3, .int .i64 y3] 24) |>.trans (hb5.mono (by simp))
    have B5 := B4.trans (b5.mono B4.size)
    clear hb5 b5 B4
    generalize wellZ _ _ _ _ = q4 at *
    obtain ⟨⟨x4, y4⟩, c4⟩ := q4
    simp only [frv]
    rcases hbad with h | h
    all_goals
      go_wp2_with fail
      all_goals
        go_ret
        exact ⟨by simp, B5.alloc B5.size _⟩
end Go.Proofs.Ytkppkfbgolmonaa.ruinMore
