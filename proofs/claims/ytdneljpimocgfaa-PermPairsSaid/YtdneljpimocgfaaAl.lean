/- The test ahead of each law answers true. No condition. -/
import Derived.Test.YtdneljpimocgfaaAt
import Derived.Test.YtdneljpimocgfaaEqual
set_option linter.unusedSimpArgs false
set_option linter.unusedVariables false
namespace Go.Proofs.Ytdneljpimocgfaa
open Go.RowKit
theorem d1 (w : World) (v : Value) (h : Rd w v [0, 0, 1]) : Calls Try.prog 8 #[v] w fun e w' => Below w.heap.size w w' ∧ ∃ u, e = .returned (.tuple #[u, .int .i64 0]) ∧ Rd w' u [2, 0, 1] := by
  refine (deal_ok v _ w h (by unfold OkD; decide)).mono ?_
  rintro e w' ⟨hb, u, rfl, hu⟩
  exact ⟨hb, u, rfl, by rw [show tabI ([0, 0, 1] : List Int).length (dl (nd [0, 0, 1]) (fun i => i) ([0, 0, 1] : List Int).length) = [2, 0, 1] by decide +kernel] at hu; exact hu⟩
theorem ok201 : OkP [2, 0, 1] := by decide
theorem d2 (w : World) (v : Value) (h : Rd w v [2, 0, 1]) : Calls Try.prog 9 #[v] w fun e w' => Below w.heap.size w w' ∧ e = .returned (.tuple #[.int .i64 4, .int .i64 0]) := by
  refine (rank_ok v _ w h ok201).mono ?_
  rintro e w' ⟨hb, rfl⟩
  exact ⟨hb, by rw [show rkP [2, 0, 1] = 4 by decide +kernel]; rfl⟩
theorem d3 (w : World) : Calls Try.prog 10 #[.int .i64 3, .int .i64 4] w fun e w' => Below w.heap.size w w' ∧ ∃ u, e = .returned (.tuple #[u, .int .i64 0]) ∧ Rd w' u [2, 0, 1] := by
  refine (at_nat 3 4 (by omega) (by omega) w).mono ?_
  rintro e w' ⟨hb, -, hp⟩
  obtain ⟨u, rfl, hu⟩ := hp (by decide +kernel)
  exact ⟨hb, u, rfl, by rw [show atL 3 4 = [2, 0, 1] by decide +kernel] at hu; exact hu⟩
theorem d4 (w : World) (v : Value) (h : Rd w v [2, 0, 1]) : Calls Try.prog 13 #[v] w fun e w' => Below w.heap.size w w' ∧ ∃ u, e = .returned (.tuple #[u, .int .i64 0]) ∧ Rd w' u [2, 0, 0] := by
  refine (code_ok v _ w h ok201).mono ?_
  rintro e w' ⟨hb, u, rfl, hu⟩
  exact ⟨hb, u, rfl, by rw [show tabI ([2, 0, 1] : List Int).length (cd (nd [2, 0, 1]) ([2, 0, 1] : List Int).length) = [2, 0, 0] by decide +kernel] at hu; exact hu⟩
set_option maxHeartbeats 1600000 in
theorem alive_any (w : World) : Calls Try.prog 7 #[] w fun e w' => e = .returned (.bool true) ∧ Below w.heap.size w w' := by
  go_enter Try.func7, Try.ntmps7
  go_wp2_with fail
  refine (d1 _ _ (Rd.built w [0, 0, 1] _ _ rfl 3 rfl (by decide))).mono ?_
  rintro e w1 ⟨h1, v1, rfl, r1⟩
  have H1 := Lib.hid ((Below.refl w.heap.size w).alloc (Nat.le_refl _) _ |>.trans (h1.mono (by simp)))
  have R1 := Lib.hid r1
  clear h1 r1
  go_wp2_with fail
  refine (d2 _ _ (Rd.built w1 [2, 0, 1] _ _ rfl 3 rfl (by decide))).mono ?_
  rintro e w2 ⟨h2, rfl⟩
  have b2 := (Below.refl w1.heap.size w1).alloc (Nat.le_refl _) _ |>.trans (h2.mono (by simp))
  have H2 := Lib.hid (H1.out.trans (b2.mono H1.out.size))
  have R12 := Lib.hid (R1.out.below b2 (Nat.le_refl _))
  clear h2 b2 R1 H1
  go_wp2_with fail
  refine (d3 w2).mono ?_
  rintro e w3 ⟨h3, v3, rfl, r3⟩
  have H3 := Lib.hid (H2.out.trans (h3.mono H2.out.size))
  have R13 := Lib.hid (R12.out.below h3 (Nat.le_refl _))
  have R3 := Lib.hid r3
  clear h3 r3 R12 H2
  go_wp2_with fail
  refine (d4 _ _ (Rd.built w3 [2, 0, 1] _ _ rfl 3 rfl (by decide))).mono ?_
  rintro e w4 ⟨h4, v4, rfl, r4⟩
  have b4 := (Below.refl w3.heap.size w3).alloc (Nat.le_refl _) _ |>.trans (h4.mono (by simp))
  have H4 := Lib.hid (H3.out.trans (b4.mono H3.out.size))
  have R14 := Lib.hid (R13.out.below b4 (Nat.le_refl _))
  have R34 := Lib.hid (R3.out.below b4 (Nat.le_refl _))
  have R4 := Lib.hid r4
  clear h4 b4 r4 R13 R3 H3
  go_wp2_with fail
  refine (equal_any _ _ [2, 0, 1] [2, 0, 1] _ (R14.out.alloc _) (Rd.built w4 [2, 0, 1] _ _ rfl 3 rfl (by decide))).mono ?_
  rintro e w5 ⟨rfl, h5⟩
  have b5 := (Below.refl w4.heap.size w4).alloc (Nat.le_refl _) _ |>.trans (h5.mono (by simp))
  have H5 := Lib.hid (H4.out.trans (b5.mono H4.out.size))
  have R35 := Lib.hid (R34.out.below b5 (Nat.le_refl _))
  have R45 := Lib.hid (R4.out.below b5 (Nat.le_refl _))
  clear h5 b5 R14 R34 R4 H4
  go_wp2_with fail
  refine (equal_any _ _ [2, 0, 1] [2, 0, 1] _ (R35.out.alloc _) (Rd.built w5 [2, 0, 1] _ _ rfl 3 rfl (by decide))).mono ?_
  rintro e w6 ⟨rfl, h6⟩
  have b6 := (Below.refl w5.heap.size w5).alloc (Nat.le_refl _) _ |>.trans (h6.mono (by simp))
  have H6 := Lib.hid (H5.out.trans (b6.mono H5.out.size))
  have R46 := Lib.hid (R45.out.below b6 (Nat.le_refl _))
  clear h6 b6 R35 R45 H5
  go_wp2_with fail
  refine (equal_any _ _ [2, 0, 0] [2, 0, 0] _ (R46.out.alloc _) (Rd.built w6 [2, 0, 0] _ _ rfl 3 rfl (by decide))).mono ?_
  rintro e w7 ⟨rfl, h7⟩
  have b7 := (Below.refl w6.heap.size w6).alloc (Nat.le_refl _) _ |>.trans (h7.mono (by simp))
  have H7 := Lib.hid (H6.out.trans (b7.mono H6.out.size))
  clear h7 b7 R46 H6
  go_wp2_with fail
  go_ret
  exact ⟨by simp, H7.out⟩
/-- A map of the numbers below n into themselves that takes no two to one takes one to each. -/
theorem onto : ∀ (n : Nat) (f : Nat → Nat), (∀ i, i < n → f i < n) → (∀ i j, i < n → j < n → f i = f j → i = j) → ∀ y, y < n → ∃ i, i < n ∧ f i = y
  | 0, _, _, _, y, hy => absurd hy (Nat.not_lt_zero y)
  | n + 1, f, h1, h2, y, hy => by
    have hne : ∀ i, i < n → f i ≠ f n := fun i hi e => by have := h2 i n (by omega) (by omega) e; omega
    have ih := onto n (fun i => if f i = n then f n else f i)
      (fun i hi => by
        show (if f i = n then f n else f i) < n
        have a := h1 i (by omega)
        have b := h1 n (by omega)
        by_cases e : f i = n
        · rw [if_pos e]; have := hne i hi; omega
        · rw [if_neg e]; omega)
      (fun i j hi hj e => by
        have e : (if f i = n then f n else f i) = (if f j = n then f n else f j) := e
        by_cases e1 : f i = n
        · by_cases e2 : f j = n
          · exact h2 i j (by omega) (by omega) (by rw [e1, e2])
          · rw [if_pos e1, if_neg e2] at e; exact absurd e.symm (hne j hj)
        · by_cases e2 : f j = n
          · rw [if_neg e1, if_pos e2] at e; exact absurd e (hne i hi)
          · rw [if_neg e1, if_neg e2] at e; exact h2 i j (by omega) (by omega) e)
    by_cases hv : f n = y
    · exact ⟨n, by omega, hv⟩
    by_cases hyn : y = n
    · have hvn : f n < n := by have := h1 n (by omega); omega
      obtain ⟨i, hi, e⟩ := ih (f n) hvn
      have e : (if f i = n then f n else f i) = f n := e
      by_cases e1 : f i = n
      · exact ⟨i, by omega, by omega⟩
      · rw [if_neg e1] at e; exact absurd e (hne i hi)
    · obtain ⟨i, hi, e⟩ := ih y (by omega)
      have e : (if f i = n then f n else f i) = y := e
      by_cases e1 : f i = n
      · rw [if_pos e1] at e; exact absurd e hv
      · rw [if_neg e1] at e; exact ⟨i, by omega, e⟩
end Go.Proofs.Ytdneljpimocgfaa
