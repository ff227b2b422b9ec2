/- Walk of alive5. No condition. -/
import Derived.Test.YtmiejokgjbnciaaAt
import Derived.Test.YtmiejokgjbnciaaNext
import Derived.Test.YtmiejokgjbnciaaRest
import Derived.Test.YtmiejokgjbnciaaEqual
set_option linter.unusedSimpArgs false
set_option linter.unusedVariables false
namespace Go.Proofs.Ytmiejokgjbnciaa
open Go.RowKit
theorem right13 : RightP 5 [1, 3] := by
  refine ⟨by decide, by decide, fun i hi => ?_⟩
  have : i = 0 ∨ i = 1 := by simp at hi; omega
  rcases this with rfl | rfl <;> simp
theorem right1 : RightP 4 [1] := by
  refine ⟨by decide, by decide, fun i hi => ?_⟩
  have : i = 0 := by simp at hi; omega
  subst this; simp
theorem rank_any (n : Int) (v : Value) (zs : List Int) (w : World) (h : Rd w v zs) : Calls Try.prog 12 #[.int .i64 n, v] w fun e w' => Below w.heap.size w w' ∧ ((RightP n zs ∧ e = .returned (.tuple #[.int .i64 (rk zs : Nat), .int .i64 0])) ∨ (¬ RightP n zs ∧ e = .returned (.tuple #[.int .i64 0, .int .i64 1]))) := by
  by_cases hr : RightP n zs
  · have := rank_ok n.toNat v zs w h (by rw [show ((n.toNat : Nat) : Int) = n by have := hr.1; omega]; exact hr)
    rw [show ((n.toNat : Nat) : Int) = n by have := hr.1; omega] at this
    exact this.mono fun e w' ⟨h1, h2⟩ => ⟨h1, .inl ⟨hr, h2⟩⟩
  · exact (rank_bad n v zs w h hr).mono fun e w' ⟨h1, h2⟩ => ⟨h1 ▸ Below.refl _ _, .inr ⟨hr, h2⟩⟩
theorem c1 (w : World) : Calls Try.prog 9 #[.int .i64 60, .int .i64 30] w fun e w' => e = .returned (.tuple #[.int .i64 118264581564861424, .int .i64 0]) ∧ Below w.heap.size w w' := by
  have h := Of_any 60 30 (by omega) w
  rwa [show ofN 60 30 = 118264581564861424 by decide +kernel] at h
theorem c2 (w : World) (v : Value) (h : Rd w v [1, 3]) : Calls Try.prog 12 #[.int .i64 5, v] w fun e w' => e = .returned (.tuple #[.int .i64 4, .int .i64 0]) ∧ Below w.heap.size w w' := by
  have h := rank_ok 5 v [1, 3] w h right13
  rw [show rk [1, 3] = 4 by decide +kernel] at h
  exact h.mono fun e w' ⟨a, b⟩ => ⟨b, a⟩
theorem c3 (w : World) : Calls Try.prog 11 #[.int .i64 5, .int .i64 2, .int .i64 4] w fun e w' => (∃ v, e = .returned (.tuple #[v, .int .i64 0]) ∧ Rd w' v [1, 3]) ∧ Below w.heap.size w w' := by
  refine (at_any 5 2 4 w).mono ?_
  rintro e w' ⟨hb, ⟨v, zs, he, hrd, hl, hr, hk, _⟩ | ⟨c, _, _, hn⟩⟩
  · refine ⟨⟨v, he, ?_⟩, hb⟩
    have : zs = [1, 3] := rk_inj hr right13 hl (by have : rk [1, 3] = 4 := by decide +kernel
                                                   omega)
    rwa [this] at hrd
  · exact absurd (by decide +kernel) hn
theorem c4 (w : World) (v : Value) (h : Rd w v [1, 3]) : Calls Try.prog 14 #[.int .i64 5, v] w fun e w' => (∃ v, e = .returned (.tuple #[v, .int .i64 0]) ∧ Rd w' v [2, 3]) ∧ Below w.heap.size w w' := by
  refine (next_ok 5 v [1, 3] w h right13).mono ?_
  rintro e w' ⟨hb, ⟨k, v', hk, hno, hm, he, hrd⟩ | ⟨hno, _⟩⟩
  · have hk0 : k = 0 := by
      rcases Nat.eq_zero_or_pos k with h | h
      · exact h
      · exact absurd (by unfold Mov; decide) (hno 0 h)
    subst hk0
    exact ⟨⟨v', he, hrd⟩, hb⟩
  · exact absurd (by unfold Mov; decide) (hno 0 (by decide))
theorem c5 (w : World) (v : Value) (h : Rd w v [1]) : Calls Try.prog 16 #[.int .i64 4, v] w fun e w' => (∃ v, e = .returned (.tuple #[v, .int .i64 0]) ∧ Rd w' v [0, 2, 3]) ∧ Below w.heap.size w w' := by
  refine (rest_ok 4 v [1] w h right1).mono ?_
  rintro e w' ⟨hb, v', he, hrd⟩
  exact ⟨⟨v', he, hrd⟩, hb⟩
set_option maxHeartbeats 1600000 in
theorem alive_any (w : World) : Calls Try.prog 7 #[] w fun e w' => e = .returned (.bool true) ∧ Below w.heap.size w w' := by
  go_enter Try.func7, Try.ntmps7
  go_wp2_with fail
  refine (c1 _).mono ?_
  rintro e w1 ⟨rfl, h1⟩
  go_wp2_with fail
  refine (c2 _ _ (Rd.built w1 [1, 3] _ _ rfl 2 rfl (by decide))).mono ?_
  rintro e w2 ⟨rfl, h2⟩
  have s1 := h1.size
  have H2 := h1.trans (((Below.refl _ _).alloc (Nat.le_refl _) _ |>.trans (h2.mono (by simp))).mono s1)
  clear h1 h2
  go_wp2_with fail
  refine (c3 _).mono ?_
  rintro e w3 ⟨⟨v3, rfl, r3⟩, h3⟩
  have H3 := H2.trans (h3.mono H2.size)
  clear h3 H2
  go_wp2_with fail
  refine (c4 _ _ (Rd.built w3 [1, 3] _ _ rfl 2 rfl (by decide))).mono ?_
  rintro e w4 ⟨⟨v4, rfl, r4⟩, h4⟩
  have b4 := (Below.refl w3.heap.size w3).alloc (Nat.le_refl _) _ |>.trans (h4.mono (by simp))
  have H4 := H3.trans (b4.mono H3.size)
  have r34 := r3.below b4 (Nat.le_refl _)
  clear h4 b4 r3 H3
  go_wp2_with fail
  refine (c5 _ _ (Rd.built w4 [1] _ _ rfl 1 rfl (by decide))).mono ?_
  rintro e w5 ⟨⟨v5, rfl, r5⟩, h5⟩
  have b5 := (Below.refl w4.heap.size w4).alloc (Nat.le_refl _) _ |>.trans (h5.mono (by simp))
  have H5 := Lib.hid (H4.trans (b5.mono H4.size))
  have R3 := Lib.hid (r34.below b5 (Nat.le_refl _))
  have R4 := Lib.hid (r4.below b5 (Nat.le_refl _))
  have R5 := Lib.hid r5
  clear h5 b5 r34 r4 r5 H4
  go_wp2_with fail
  refine (equal_any _ _ [1, 3] [1, 3] _ (R3.out.alloc _) (Rd.built w5 [1, 3] _ _ rfl 2 rfl (by decide))).mono ?_
  rintro e w6 ⟨rfl, h6⟩
  have b6 := (Below.refl w5.heap.size w5).alloc (Nat.le_refl _) _ |>.trans (h6.mono (by simp))
  have H6 := Lib.hid (H5.out.trans (b6.mono H5.out.size))
  have R46 := Lib.hid (R4.out.below b6 (Nat.le_refl _))
  have R56 := Lib.hid (R5.out.below b6 (Nat.le_refl _))
  clear h6 b6 R3 R4 R5 H5
  go_wp2_with fail
  refine (equal_any _ _ [2, 3] [2, 3] _ (R46.out.alloc _) (Rd.built w6 [2, 3] _ _ rfl 2 rfl (by decide))).mono ?_
  rintro e w7 ⟨rfl, h7⟩
  have b7 := (Below.refl w6.heap.size w6).alloc (Nat.le_refl _) _ |>.trans (h7.mono (by simp))
  have H7 := Lib.hid (H6.out.trans (b7.mono H6.out.size))
  have R57 := Lib.hid (R56.out.below b7 (Nat.le_refl _))
  clear h7 b7 R46 R56 H6
  go_wp2_with fail
  refine (equal_any _ _ [0, 2, 3] [0, 2, 3] _ (R57.out.alloc _) (Rd.built w7 [0, 2, 3] _ _ rfl 3 rfl (by decide))).mono ?_
  rintro e w8 ⟨rfl, h8⟩
  have b8 := (Below.refl w7.heap.size w7).alloc (Nat.le_refl _) _ |>.trans (h8.mono (by simp))
  have H8 := Lib.hid (H7.out.trans (b8.mono H7.out.size))
  clear h8 b8 R57 H7
  go_wp2_with fail
  go_ret
  exact ⟨rfl, H8.out⟩
end Go.Proofs.Ytmiejokgjbnciaa
