/- alive24 is true. Condition: the table of math/bits is as its initialiser lays it. -/
import Derived.Test.YtoinpfcmolkhiaaDoorBru
import Derived.Test.YtoinpfcmolkhiaaDoorWLaw
import Derived.Test.YtoinpfcmolkhiaaDoorEqualB
import Derived.Test.YtoinpfcmolkhiaaDoorBits
set_option linter.unusedSimpArgs false
set_option linter.unusedVariables false
namespace Go.Proofs.YtoinpfcmolkhiaaDoor
open Go.RowKit
theorem TabAt.below {w w' : World} (h : TabAt w) (hb : Below w.heap.size w w') : TabAt w' := fun j hj =>
  (World.cell?_of_block (hb.block 0 (World.block_lt_of_cell? w _ (h 0 (by decide))))).trans (h j hj)
theorem flip3 (w : World) (hT : TabAt w) : Calls Tryd.prog 17 #[.int .u64 3] w fun e w' => e = .returned (.tuple #[.int .i64 2, .int .i64 0]) ∧ w = w' :=
  flip_some 3 (by decide) w hT
theorem code3 (w : World) : Calls Tryd.prog 8 #[.int .u64 3] w fun e w' => e = .returned (.int .u64 2) ∧ w = w' := code_any 3#64 w
theorem place2 (w : World) : Calls Tryd.prog 9 #[.int .u64 2] w fun e w' => e = .returned (.int .u64 3) ∧ w = w' := place_any 2#64 w
theorem bru3 : bruN 3 = tabB 8 (bitf 23 8) := by decide +kernel
theorem bruijn3 (w : World) : Calls Tryd.prog 10 #[.int .i64 3] w fun e w' => Below w.heap.size w w' ∧ ∃ a m c, e = .returned (.tuple #[.slice a m c, .int .i64 0]) ∧ RdB w' (.slice a m c) (tabB 8 (bitf 23 8)) := bru3 ▸ bruijn_any 3 w (by decide)
theorem bits23 (w : World) : Calls Tryd.prog 19 #[.int .i64 23, .int .i64 8] w fun e w' => Below w.heap.size w w' ∧ ∃ v, e = .returned v ∧ RdB w' v (tabB 8 (bitf 23 8)) := bits_any 23 8 (by decide) (by decide) w
theorem least5 (w : World) : Calls Tryd.prog 14 #[.slice (some ⟨w.heap.size, 0, none⟩) 5 5] (w.alloc (.cells #[.bool true, .bool false, .bool true, .bool false, .bool false] 4)) fun e w' => e = .returned (.tuple #[.int .i64 3, .int .i64 0]) ∧ Below (w.alloc (.cells #[.bool true, .bool false, .bool true, .bool false, .bool false] 4)).heap.size (w.alloc (.cells #[.bool true, .bool false, .bool true, .bool false, .bool false] 4)) w' :=
  least_run _ 5 5 [true, false, true, false, false] _ (RdB.built w _ _ 4 rfl 5 rfl (by decide)) rfl (by decide) (by decide)
set_option maxHeartbeats 1600000 in
set_option maxRecDepth 20000 in
theorem alive_any (w : World) (hT : TabAt w) : Calls Tryd.prog 7 #[] w fun e w' => e = .returned (.bool true) ∧ Below w.heap.size w w' := by
  have HT := Lib.hid hT
  clear hT
  go_enter Tryd.func7, Tryd.ntmps7
  go_wp2_with fail
  refine (flip3 _ HT.out).mono ?_
  rintro e w' ⟨rfl, rfl⟩
  go_wp2_with fail
  refine (bruijn3 _).mono ?_
  rintro e w2 ⟨hb2, a2, m2, c2, rfl, hr2⟩
  have HB2 := Lib.hid hb2
  have HR2 := Lib.hid hr2
  clear hb2 hr2
  go_wp2_with fail
  refine (least5 _).mono ?_
  rintro e w3 ⟨rfl, hb3⟩
  have HB3 := Lib.hid ((HB2.out.alloc HB2.out.size (.cells #[.bool true, .bool false, .bool true, .bool false, .bool false] 4)).trans (hb3.mono (by have := HB2.out.size; simp; omega)))
  have HR3 := Lib.hid ((HR2.out.alloc (.cells #[.bool true, .bool false, .bool true, .bool false, .bool false] 4)).below hb3 (Nat.le_refl _))
  clear hb3
  go_wp2_with fail
  refine (code3 _).mono ?_
  rintro e w' ⟨rfl, rfl⟩
  go_wp2_with fail
  refine (place2 _).mono ?_
  rintro e w' ⟨rfl, rfl⟩
  go_wp2_with fail
  refine (bits23 _).mono ?_
  rintro e w4 ⟨hb4, v4, rfl, hr4⟩
  have HB4 := Lib.hid (HB3.out.trans (hb4.mono HB3.out.size))
  have HR34 := Lib.hid (HR3.out.below hb4 (Nat.le_refl _))
  have HR4 := Lib.hid hr4
  clear hb4 hr4
  go_wp2_with fail
  refine (equalB_any _ _ _ _ _ HR34.out HR4.out).mono ?_
  rintro e w5 ⟨rfl, hb5⟩
  have HB5 := Lib.hid (HB4.out.trans (hb5.mono HB4.out.size))
  have ht : decide (tabB 8 (bitf 23 8) = tabB 8 (bitf 23 8)) = true := by simp
  rw [ht]
  clear hb5 ht
  go_wp2_with fail
  go_ret
  exact ⟨rfl, HB5.out⟩
end Go.Proofs.YtoinpfcmolkhiaaDoor
