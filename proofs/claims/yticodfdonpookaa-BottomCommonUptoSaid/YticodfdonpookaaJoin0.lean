/- bottom.Join of two empty lists, and of any two in order: the sketch of both. No condition. -/
import Derived.Test.YticodfdonpookaaAll
import Derived.Test.YticodfdonpookaaLaysN
import Derived.Shelf.SlSortCmp.NoneTotal
set_option linter.unusedSimpArgs false
set_option linter.unusedVariables false
set_option maxRecDepth 20000
namespace Go.Proofs.Yticodfdonpookaa
open Go.RowKit
theorem sort0 (p : Option Addr) (cap : Nat) (fv : Value) (w : World) : Calls Try.prog 24 #[.slice p 0 cap, fv] w fun e w' => e = .returned (.tuple #[]) ∧ w' = w := AnyF.slices_SortFunc_none Try.laysSortN p cap fv w
theorem cpt0 (p : Option Addr) (cap : Nat) (w : World) : Calls Try.prog 19 #[.slice p 0 cap] w fun e w' => e = .returned (.slice p 0 cap) ∧ w = w' := by
  go_enter Try.func19, Try.ntmps19
  go_wp2_with fail
  go_ret
  exact ⟨rfl, rfl⟩
set_option maxHeartbeats 1600000 in
theorem join0 (s : BitVec 64) (room : Int) (a1 a2 : Option Addr) (c1 c2 : Nat) (w : World) (h1 : Rd w (.slice a1 0 c1) (us [])) (h2 : Rd w (.slice a2 0 c2) (us []))
    (hn1 : a1 = none → c1 = 0) (hn2 : a2 = none → c2 = 0) (hr : 1 ≤ room ∧ room ≤ 400) :
    Calls Try.prog 11 #[.int .u64 (U s), .int .i64 room, .slice a1 0 c1, .slice a2 0 c2] w fun e w' => (∃ a c, e = .returned (.tuple #[.slice a 0 c, .int .i64 0]) ∧ (a = none → c = 0) ∧ c ≤ maxLen) ∧ Below w.heap.size w w' := by
  obtain ⟨W, hW⟩ : ∃ W, w.alloc (.cells #[.int .u64 (U s)] 22) = W := ⟨_, rfl⟩
  have hBW : Below w.heap.size w W := by rw [← hW]; exact (Below.refl _ _).alloc (Nat.le_refl _) _
  have HBW := Lib.hid hBW
  have r1 := h1.below hBW (Nat.le_refl _)
  have r2 := h2.below hBW (Nat.le_refl _)
  have HC0 : Hid (∀ q, (W.drewN q).cell? ⟨w.heap.size, 0, none⟩ = some (.int .u64 (U s))) := fun q => by
    show W.cell? _ = _
    rw [← hW, cell_of_row _ _ _ _ 22 (0, 0) (heap_alloc_new w _)]; rfl
  have HX := Lib.hid (right_any s room _ [] W r1 hr (by simp; omega) List.Pairwise.nil)
  have HY := Lib.hid (fun q => right_any s room _ [] (W.drewN q) r2 hr (by simp; omega) List.Pairwise.nil)
  have HCO : Hid (∀ q, Calls Try.prog 10 #[.slice (some ⟨W.heap.size, 0, none⟩) 2 2] ((W.drewN q).alloc (.cells #[.slice a1 0 c1, .slice a2 0 c2] 23)) fun e w' => Below W.heap.size W w' ∧ ∃ a c, e = .returned (.slice a 0 c) ∧ (a = none → c = 0) ∧ c ≤ maxLen) := fun q => by
    obtain ⟨w5, h5⟩ : ∃ X, W.drewN q = X := ⟨_, rfl⟩
    have hb5 : Below W.heap.size W w5 := by rw [← h5]; exact (Below.refl _ _).drewN q
    have hz : w5.heap.size = W.heap.size := by rw [← h5]; rfl
    rw [h5, ← hz]
    have hb6 : Below w5.heap.size w5 (w5.alloc (.cells #[.slice a1 0 c1, .slice a2 0 c2] 23)) := (Below.refl _ _).alloc (Nat.le_refl _) _
    have hbb := hb5.trans (hb6.mono hb5.size)
    refine (concatu_any w5.heap.size 0 c1 0 c2 a1 a2 [] [] _ (r1.below hbb (Nat.le_refl _)) (r2.below hbb (Nat.le_refl _)) (fun h => ⟨rfl, hn1 h⟩) (fun h => ⟨rfl, hn2 h⟩) ?_ ?_ (by simp) (by omega)).mono ?_
    · rw [cell_of_row _ _ _ _ 23 (0, 0) (heap_alloc_new w5 _)]; rfl
    · rw [cell_of_row _ _ _ _ 23 (0, 0) (heap_alloc_new w5 _)]; rfl
    · rintro e w' ⟨hb, v, rfl, hv⟩
      refine ⟨by rw [hz]; exact hbb.trans (hb.mono (by simp; omega)), ?_⟩
      rcases hv.2 with ⟨rfl, -⟩ | ⟨g, cap, cur, rfl, -, -, g1, g2, -⟩
      · exact ⟨none, 0, rfl, fun _ => rfl, Nat.zero_le _⟩
      · exact ⟨_, cap, rfl, (fun h => by cases h), g2⟩
  have emin : ∀ w : World, (Builtin.min_ #[3, 3] 3 #[.int .i64 room, .int .i64 0]).run Try.prog w = .ok (.int .i64 0) w := fun w => by rw [min2_run, Int.min_eq_right (by omega)]
  have HWW := Lib.hid hW
  clear hW hBW r1 r2 h1 h2 hn1 hn2
  go_enter Try.func11, Try.ntmps11
  go_wp2_with fail
  rw [HWW.out]
  refine HX.out.mono ?_
  rintro e w2 ⟨rfl, q2, rfl⟩
  have c0 := HC0.out q2
  have HYq := Lib.hid (HY.out q2)
  clear HX HY HWW
  go_wp2_with fail
  refine HYq.out.mono ?_
  rintro e w3 ⟨rfl, q3, rfl⟩
  rw [World.drewN_drewN]
  generalize q2 + q3 = q
  clear c0
  have HCq := Lib.hid (HCO.out q)
  clear HYq HCO
  go_wp2_with fail
  refine HCq.out.mono ?_
  rintro e w5 ⟨hb5, a5, c5, rfl, hc5, hm5⟩
  have HB5 := Lib.hid (HBW.out.trans (hb5.mono HBW.out.size))
  have HC5 := Lib.hid hc5
  have hm5' : c5 ≤ 9223372036854775807 := by unfold maxLen at hm5; exact hm5
  clear hb5 hc5 HCq HC0 hm5
  go_wp2_with fail
  refine (sort0 _ _ _ _).mono ?_
  rintro e w6 ⟨rfl, rfl⟩
  go_wp2_with fail
  refine (cpt0 _ _ _).mono ?_
  rintro e w7 ⟨rfl, rfl⟩
  go_wp2_with fail
  refine (clip_any _ _ _ _ (Nat.zero_le _) (by omega)).mono ?_
  rintro e w8 ⟨rfl, rfl⟩
  go_wp2_with fail
  go_ret2
  exact ⟨⟨_, _, rfl, fun _ => rfl, Nat.zero_le _⟩, HB5.out⟩
theorem join_tot (s : BitVec 64) (room : Int) (v v' : Value) (xs ys : List (BitVec 64)) (w : World) (h1 : RdN w v xs) (h2 : RdN w v' ys) (hr : 1 ≤ room ∧ room ≤ 400) (l1 : (xs.length : Int) ≤ room) (l2 : (ys.length : Int) ≤ room) (hx : Asc s xs) (hy : Asc s ys) :
    Calls Try.prog 11 #[.int .u64 (U s), .int .i64 room, v, v'] w fun e w' => (∃ r, e = .returned (.tuple #[r, .int .i64 0]) ∧ RdN w' r (sk s room.toNat (xs ++ ys))) ∧ Below w.heap.size w w' := by
  obtain ⟨a1, n1, c1, rfl, z1, e1, r1⟩ := h1
  obtain ⟨a2, n2, c2, rfl, z2, e2, r2⟩ := h2
  by_cases h0 : 0 < n1 + n2
  · refine (join_any s room a1 a2 n1 c1 n2 c2 xs ys w r1 r2 z1 z2 hr l1 l2 hx hy h0).mono ?_
    rintro e w' ⟨⟨g, k, rfl, h3⟩, hb⟩
    refine ⟨⟨_, rfl, _, k, k, rfl, (fun h => by cases h), ?_, h3⟩, hb⟩
    obtain ⟨_, _, he, -⟩ := h3.open
    injection he with _ q5 _
    rw [us_len] at q5
    exact q5.symm
  · obtain rfl : n1 = 0 := by omega
    obtain rfl : n2 = 0 := by omega
    obtain rfl : xs = [] := List.length_eq_zero_iff.1 e1
    obtain rfl : ys = [] := List.length_eq_zero_iff.1 e2
    refine (join0 s room a1 a2 c1 c2 w r1 r2 (fun h => (z1 h).2) (fun h => (z2 h).2) hr).mono ?_
    rintro e w' ⟨⟨a, c, rfl, h3, h4⟩, hb⟩
    refine ⟨⟨_, rfl, a, 0, c, rfl, fun h => ⟨rfl, h3 h⟩, by rw [List.append_nil, sk_nil]; rfl, ?_⟩, hb⟩
    rw [List.append_nil, sk_nil]
    exact ⟨a, c, rfl, Nat.zero_le _, h4, .inl rfl⟩
end Go.Proofs.Yticodfdonpookaa
