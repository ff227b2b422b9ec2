/- The small check ahead of each law: it is passed. -/
import Derived.Test.YticodfdonpookaaAll
import Derived.Test.YticodfdonpookaaEqual
set_option linter.unusedSimpArgs false
set_option linter.unusedVariables false
set_option maxRecDepth 20000
namespace Go.Proofs.Yticodfdonpookaa
open Go.RowKit
def al6 : List (BitVec 64) := [5, 5, 9, 1, 4, 9]
theorem al_3 : (sk 7 3 al6).length = 3 := by decide +kernel
theorem al_4 : (sk 7 9 al6).length = 4 := by decide +kernel
theorem sk_less (s : BitVec 64) {r r' : Nat} (h : r ≤ r') (l : List (BitVec 64)) : (sk s r' l).take r = sk s r l := by
  unfold sk; rw [List.take_take, Nat.min_eq_left h]
theorem mix0 : U (mix 0) = 0 := by decide +kernel
theorem mix1 : U (mix 1) = 6238072747940578789 := by decide +kernel
theorem mix0_any (w : World) : Calls Try.prog 17 #[.int .u64 0] w fun e w' => e = .returned (.int .u64 0) ∧ w = w' := by
  have := mix_any 0 w
  rw [mix0] at this
  exact this
theorem mix1_any (w : World) : Calls Try.prog 17 #[.int .u64 1] w fun e w' => e = .returned (.int .u64 6238072747940578789) ∧ w = w' := by
  have := mix_any 1 w
  rw [mix1] at this
  exact this
theorem al_all (room : Int) (hr : 1 ≤ room ∧ room ≤ 400) (w : World) : Calls Try.prog 9 #[.int .u64 7, .int .i64 room, .slice (some ⟨w.heap.size, 0, none⟩) 6 6] (w.alloc (.cells #[.int .u64 5, .int .u64 5, .int .u64 9, .int .u64 1, .int .u64 4, .int .u64 9] 22)) fun e w' =>
    (∃ v', e = .returned (.tuple #[v', .int .i64 0]) ∧ RdN w' v' (sk 7 room.toNat al6)) ∧ Below w.heap.size w w' := by
  have := all_any 7 room (.slice (some ⟨w.heap.size, 0, none⟩) 6 6) al6 _ (Rd.built w (us al6) _ 22 rfl 6 rfl (by decide)) hr
  refine Calls.mono this ?_
  rintro e w' ⟨h1, h2⟩
  exact ⟨h1, ((Below.refl _ _).alloc (Nat.le_refl _) _).trans (h2.mono (by simp))⟩
set_option maxHeartbeats 1600000 in
theorem alive_any (w : World) : Calls Try.prog 8 #[] w fun e w' => e = .returned (.bool true) ∧ Below w.heap.size w w' := by
  have HA := Lib.hid (al_all 3 (by decide) w)
  have HA9 := Lib.hid (fun w1 => al_all 9 (by decide) w1)
  go_enter Try.func8, Try.ntmps8
  go_wp2_with fail
  refine HA.out.mono ?_
  rintro e w1 ⟨⟨v1, rfl, hr1⟩, hb1⟩
  have HB1 := Lib.hid hb1
  have HR1 := Lib.hid hr1
  have HC := Lib.hid (HA9.out w1)
  clear hb1 hr1 HA HA9
  go_wp2_with fail
  refine HC.out.mono ?_
  rintro e w2 ⟨⟨v2, rfl, hr2⟩, hb2⟩
  have HB2 := Lib.hid (HB1.out.trans (hb2.mono HB1.out.size))
  obtain ⟨a1, n1, c1, rfl, -, e1, r1⟩ := HR1.out.below hb2 (Nat.le_refl _)
  obtain ⟨a2, n2, c2, rfl, -, e2, r2⟩ := hr2
  have f1 : n1 = 3 := e1.symm.trans al_3
  have f2 : n2 = 4 := e2.symm.trans al_4
  subst f1 f2
  have hc2 : 4 ≤ c2 ∧ c2 ≤ 9223372036854775807 := by
    obtain ⟨_, _, he, g1, g2, -⟩ := r2.open
    injection he with _ q1 q2
    omega
  have HE : Hid (Calls Try.prog 12 #[.slice a1 3 c1, .slice a2 3 c2] w2 fun e w' => e = .returned (.bool true) ∧ Below w2.heap.size w2 w') := by
    refine (equal_any _ _ _ _ w2 r1 (r2.take (k := 3) (by omega))).mono ?_
    rintro e w' ⟨rfl, hb⟩
    refine ⟨?_, hb⟩
    have : us (sk 7 (3 : Int).toNat al6) = (us (sk 7 (9 : Int).toNat al6)).take 3 := by
      unfold us
      rw [← List.map_take]
      exact congrArg (List.map U) (sk_less 7 (by decide : 3 ≤ 9) al6).symm
    rw [decide_eq_true this]
  obtain ⟨hc3, hc4⟩ := hc2
  have p0 : (3 : Int) ≤ (c2 : Int) := by omega
  clear r1 r2 e1 e2 hb2 HC HR1
  go_wp2_with fail
  refine HE.out.mono ?_
  rintro e w3 ⟨rfl, hb3⟩
  have HB3 := Lib.hid (HB2.out.trans (hb3.mono HB2.out.size))
  clear hb3 HE
  go_wp2_with fail
  refine (mix0_any _).mono ?_
  rintro e w4 ⟨rfl, rfl⟩
  go_wp2_with fail
  refine (mix1_any _).mono ?_
  rintro e w4 ⟨rfl, rfl⟩
  go_wp2_with fail
  go_ret
  exact ⟨rfl, HB3.out⟩
end Go.Proofs.Yticodfdonpookaa
