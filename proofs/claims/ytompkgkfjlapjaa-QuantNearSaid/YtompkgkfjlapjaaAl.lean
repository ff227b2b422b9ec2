/- The small check ahead of each law: it is passed. -/
import Derived.Test.YtompkgkfjlapjaaAll
import Derived.Test.YtompkgkfjlapjaaFind
set_option linter.unusedSimpArgs false
set_option linter.unusedVariables false
namespace Go.Proofs.Ytompkgkfjlapjaa
open Go.RowKit
def al0 : List Rk := [⟨1, 1, 0⟩, ⟨3, 2, 0⟩, ⟨8, 1, 2⟩, ⟨9, 3, 0⟩]
theorem al_all : allF 4 [] [5, 1, 9, 3, 7, 2, 8] = some al0 := by decide +kernel
theorem al_f1 : (fndS 1 al0).1 = 1 := by decide +kernel
theorem al_f7 : (fndS 7 al0).1 = 9 := by decide +kernel
set_option maxHeartbeats 800000 in
theorem alive_any (w : World) : Calls Try.prog 7 #[] w fun e w' => e = .returned (.bool true) ∧ Below w.heap.size w w' := by
  have HA : Hid (Calls Try.prog 8 #[.int .i64 4, .slice (some ⟨w.heap.size, 0, none⟩) 7 7] (w.alloc (.cells #[.int .i64 5, .int .i64 1, .int .i64 9, .int .i64 3, .int .i64 7, .int .i64 2, .int .i64 8] 3)) fun e w' =>
      Below w.heap.size w w' ∧ ∃ v, e = .returned (.tuple #[v, .int .i64 0]) ∧ Own w' w.heap.size v al0 ∧ RightP 4 al0) := by
    refine (all_any 4 _ [5, 1, 9, 3, 7, 2, 8] _ (Rd.built w [5, 1, 9, 3, 7, 2, 8] _ 3 rfl 7 rfl (by decide))).mono ?_
    rintro e w' ⟨h1, ⟨-, -, l, v', h2, rfl, h3, h4, h5, h6⟩ | ⟨h2, -⟩⟩
    · rw [al_all] at h2
      cases h2
      exact ⟨((Below.refl _ _).alloc (Nat.le_refl _) _).trans (h1.mono (by simp)), v', rfl, h3.base (by simp), h4.right (by decide) (by decide) h5 h6⟩
    · rw [al_all] at h2
      rcases h2 with h2 | h2
      · exact absurd ⟨by decide, by decide⟩ h2
      · cases h2
  go_enter Try.func7, Try.ntmps7
  go_wp2_with fail
  refine HA.out.mono ?_
  rintro e w1 ⟨hb1, v, rfl, ho, hr⟩
  obtain ⟨a, cap, rfl, -⟩ := ho.open
  have HB1 := Lib.hid hb1
  have HO := Lib.hid ho
  have HR := Lib.hid hr
  have HF1 := Lib.hid (find_any 4 1 a 4 cap w.heap.size al0 w1 ho rfl hr (by decide) (by decide +kernel))
  rw [al_f1] at HF1
  clear hb1 ho hr HA
  go_wp2_with fail
  refine HF1.out.mono ?_
  rintro e w2 ⟨rfl, hb2⟩
  have HB2 := Lib.hid (HB1.out.trans (hb2.mono HB1.out.size))
  have HO2 := Lib.hid (HO.out.below hb2 (Nat.le_refl _))
  have HF7 := Lib.hid (find_any 4 7 a 4 cap w.heap.size al0 w2 HO2.out rfl HR.out (by decide) (by decide +kernel))
  rw [al_f7] at HF7
  clear hb2 HF1
  go_wp2_with fail
  refine HF7.out.mono ?_
  rintro e w3 ⟨rfl, hb3⟩
  have HB3 := Lib.hid (HB2.out.trans (hb3.mono HB2.out.size))
  have HO3 := Lib.hid (HO2.out.below hb3 (Nat.le_refl _))
  have HC := Lib.hid (count_any a 4 cap w.heap.size al0 w3 HO3.out rfl HR.out.gap HR.out.sum)
  rw [show cnt al0 = 7 by decide +kernel] at HC
  clear hb3 HF7
  go_wp2_with fail
  refine HC.out.mono ?_
  rintro e w4 ⟨rfl, hb4⟩
  have HB4 := Lib.hid (HB3.out.trans (hb4.mono HB3.out.size))
  have HRR := Lib.hid (right_any 4 a 4 cap w.heap.size al0 w4 (HO3.out.below hb4 (Nat.le_refl _)) rfl HR.out)
  clear hb4 HC
  go_wp2_with fail
  refine HRR.out.mono ?_
  rintro e w5 ⟨rfl, hb5⟩
  have HB5 := Lib.hid (HB4.out.trans (hb5.mono HB4.out.size))
  clear hb5
  go_wp2_with fail
  go_ret
  exact ⟨rfl, HB5.out⟩
end Go.Proofs.Ytompkgkfjlapjaa
