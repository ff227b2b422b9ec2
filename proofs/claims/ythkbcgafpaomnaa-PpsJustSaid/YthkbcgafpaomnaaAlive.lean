/- Walk of alive10. No condition. -/
import Derived.Test.YthkbcgafpaomnaaTake
import Derived.Test.YthkbcgafpaomnaaEqual
set_option linter.unusedSimpArgs false
set_option linter.unusedVariables false
namespace Go.Proofs.Ythkbcgafpaomnaa
open Go.RowKit
def Got (l : List Int) (w : World) (e : Ending) (w' : World) : Prop := ∃ v, e = .returned (.tuple #[v, .int .i64 0]) ∧ Rd w' v l ∧ Below w.heap.size w w'
theorem got_of {zs : List Int} {many start : Int} {w : World} {e : Ending} {w' : World} (h : TakeOk zs many start w e w') : Got (tk zs many start zs.sum zs.length) w e w' := by
  obtain ⟨v, h1, h2, h3⟩ := h
  exact ⟨v, h1, Rd.own h2, h3⟩
theorem one (v : Value) (w : World) (h : Rd w v [1, 4, 1]) : Calls Try.prog 8 #[v, .int .i64 2, .int .i64 1] w (Got [0, 1] w) := by
  refine (take_good v [1, 4, 1] 2 1 w h ⟨by decide, by decide, by decide, by decide, by decide⟩ (by decide) (by decide)).mono fun e w' h => ?_
  have := got_of h
  have e : tk [1, 4, 1] 2 1 ([1, 4, 1] : List Int).sum ([1, 4, 1] : List Int).length = [0, 1] := by decide +kernel
  rwa [e] at this
theorem two (v : Value) (w : World) (h : Rd w v [1, 4, 1]) : Calls Try.prog 8 #[v, .int .i64 2, .int .i64 5] w (Got [1, 2] w) := by
  refine (take_good v [1, 4, 1] 2 5 w h ⟨by decide, by decide, by decide, by decide, by decide⟩ (by decide) (by decide)).mono fun e w' h => ?_
  have := got_of h
  have e : tk [1, 4, 1] 2 5 ([1, 4, 1] : List Int).sum ([1, 4, 1] : List Int).length = [1, 2] := by decide +kernel
  rwa [e] at this
set_option maxHeartbeats 400000 in
theorem alive_any (w : World) : Calls Try.prog 7 #[] w fun e w' => e = .returned (.bool true) ∧ Below w.heap.size w w' := by
  go_enter Try.func7, Try.ntmps7
  go_wp2_with fail
  refine (one _ _ (Rd.built w [1, 4, 1] _ _ rfl 3 rfl (by decide))).mono ?_
  rintro e w1 ⟨v1, rfl, hr1, hb1⟩
  have s1 := hb1.size
  have HR1 := Lib.hid hr1; clear hr1
  have HB1 := Lib.hid (((Below.refl w.heap.size w).alloc (Nat.le_refl _) _).trans (hb1.mono (by simp))); clear hb1
  simp only [World.size_alloc] at s1
  go_wp2_with fail
  refine (two _ _ (Rd.built w1 [1, 4, 1] _ _ rfl 3 rfl (by decide))).mono ?_
  rintro e w2 ⟨v2, rfl, hr2, hb2⟩
  have s2 := hb2.size
  simp only [World.size_alloc] at s2
  have HR2 := Lib.hid hr2; clear hr2
  have HR3 := Lib.hid ((HR1.out.alloc _).below hb2 (Nat.le_refl _)); clear HR1
  have HB2 := Lib.hid ((HB1.out.alloc (by omega) _).trans (hb2.mono (by simp; omega))); clear hb2 HB1
  go_wp2_with fail
  refine (equal_any _ _ [0, 1] [0, 1] _ (HR3.out.alloc _) (Rd.built _ [0, 1] _ _ rfl 2 rfl (by decide))).mono ?_
  rintro e w3 ⟨rfl, hb3⟩
  have s3 := hb3.size
  simp only [World.size_alloc] at s3
  have HR4 := Lib.hid ((HR2.out.alloc _).below hb3 (Nat.le_refl _)); clear HR2
  have HB3 := Lib.hid ((HB2.out.alloc (by omega) _).trans (hb3.mono (by simp; omega))); clear hb3 HB2
  go_wp2_with fail
  refine (equal_any _ _ [1, 2] [1, 2] _ (HR4.out.alloc _) (Rd.built _ [1, 2] _ _ rfl 2 rfl (by decide))).mono ?_
  rintro e w4 ⟨rfl, hb4⟩
  have HB4 := Lib.hid ((HB3.out.alloc (by omega) _).trans (hb4.mono (by simp; omega))); clear hb4 HB3
  go_wp2_with fail
  go_ret
  exact ⟨by simp, HB4.out⟩
end Go.Proofs.Ythkbcgafpaomnaa
