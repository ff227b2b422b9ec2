/- Of weights that are the same there and back all determinants are one; so what chain.Rest answers goes by the rows' sums. No condition. -/
import Derived.Test.YtidnmdfpnmahpaaRest
set_option linter.unusedSimpArgs false
set_option linter.unusedVariables false
set_option maxRecDepth 20000
namespace Go.Proofs.Ytidnmdfpnmahpaa
open Go.RowKit
theorem lapsym_2_1 (m00 m01 m11 : Int) : detL 1 (lap [[m00, m01], [m01, m11]] 2 2 1) = detL 1 (lap [[m00, m01], [m01, m11]] 2 2 0) := by
  rw [show lap [[m00, m01], [m01, m11]] 2 2 1 = [[(m00 + (m01 + 0)) - m00]] from rfl, show lap [[m00, m01], [m01, m11]] 2 2 0 = [[(m01 + (m11 + 0)) - m11]] from rfl, det1, det1]
  omega
theorem lapsym_3_1 (m00 m01 m02 m11 m12 m22 : Int) : detL 2 (lap [[m00, m01, m02], [m01, m11, m12], [m02, m12, m22]] 3 3 1) = detL 2 (lap [[m00, m01, m02], [m01, m11, m12], [m02, m12, m22]] 3 3 0) := by
  rw [show lap [[m00, m01, m02], [m01, m11, m12], [m02, m12, m22]] 3 3 1 = [[(m00 + (m01 + (m02 + 0))) - m00, -m02], [-m02, (m02 + (m12 + (m22 + 0))) - m22]] from rfl, show lap [[m00, m01, m02], [m01, m11, m12], [m02, m12, m22]] 3 3 0 = [[(m01 + (m11 + (m12 + 0))) - m11, -m12], [-m12, (m02 + (m12 + (m22 + 0))) - m22]] from rfl, det2, det2]
  unfold d2
  grind
theorem lapsym_3_2 (m00 m01 m02 m11 m12 m22 : Int) : detL 2 (lap [[m00, m01, m02], [m01, m11, m12], [m02, m12, m22]] 3 3 2) = detL 2 (lap [[m00, m01, m02], [m01, m11, m12], [m02, m12, m22]] 3 3 0) := by
  rw [show lap [[m00, m01, m02], [m01, m11, m12], [m02, m12, m22]] 3 3 2 = [[(m00 + (m01 + (m02 + 0))) - m00, -m01], [-m01, (m01 + (m11 + (m12 + 0))) - m11]] from rfl, show lap [[m00, m01, m02], [m01, m11, m12], [m02, m12, m22]] 3 3 0 = [[(m01 + (m11 + (m12 + 0))) - m11, -m12], [-m12, (m02 + (m12 + (m22 + 0))) - m22]] from rfl, det2, det2]
  unfold d2
  grind
theorem lapsym_4_1 (m00 m01 m02 m03 m11 m12 m13 m22 m23 m33 : Int) : detL 3 (lap [[m00, m01, m02, m03], [m01, m11, m12, m13], [m02, m12, m22, m23], [m03, m13, m23, m33]] 4 4 1) = detL 3 (lap [[m00, m01, m02, m03], [m01, m11, m12, m13], [m02, m12, m22, m23], [m03, m13, m23, m33]] 4 4 0) := by
  rw [show lap [[m00, m01, m02, m03], [m01, m11, m12, m13], [m02, m12, m22, m23], [m03, m13, m23, m33]] 4 4 1 = [[(m00 + (m01 + (m02 + (m03 + 0)))) - m00, -m02, -m03], [-m02, (m02 + (m12 + (m22 + (m23 + 0)))) - m22, -m23], [-m03, -m23, (m03 + (m13 + (m23 + (m33 + 0)))) - m33]] from rfl, show lap [[m00, m01, m02, m03], [m01, m11, m12, m13], [m02, m12, m22, m23], [m03, m13, m23, m33]] 4 4 0 = [[(m01 + (m11 + (m12 + (m13 + 0)))) - m11, -m12, -m13], [-m12, (m02 + (m12 + (m22 + (m23 + 0)))) - m22, -m23], [-m13, -m23, (m03 + (m13 + (m23 + (m33 + 0)))) - m33]] from rfl, det3, det3]
  unfold d3 d2
  grind
theorem lapsym_4_2 (m00 m01 m02 m03 m11 m12 m13 m22 m23 m33 : Int) : detL 3 (lap [[m00, m01, m02, m03], [m01, m11, m12, m13], [m02, m12, m22, m23], [m03, m13, m23, m33]] 4 4 2) = detL 3 (lap [[m00, m01, m02, m03], [m01, m11, m12, m13], [m02, m12, m22, m23], [m03, m13, m23, m33]] 4 4 0) := by
  rw [show lap [[m00, m01, m02, m03], [m01, m11, m12, m13], [m02, m12, m22, m23], [m03, m13, m23, m33]] 4 4 2 = [[(m00 + (m01 + (m02 + (m03 + 0)))) - m00, -m01, -m03], [-m01, (m01 + (m11 + (m12 + (m13 + 0)))) - m11, -m13], [-m03, -m13, (m03 + (m13 + (m23 + (m33 + 0)))) - m33]] from rfl, show lap [[m00, m01, m02, m03], [m01, m11, m12, m13], [m02, m12, m22, m23], [m03, m13, m23, m33]] 4 4 0 = [[(m01 + (m11 + (m12 + (m13 + 0)))) - m11, -m12, -m13], [-m12, (m02 + (m12 + (m22 + (m23 + 0)))) - m22, -m23], [-m13, -m23, (m03 + (m13 + (m23 + (m33 + 0)))) - m33]] from rfl, det3, det3]
  unfold d3 d2
  grind
theorem lapsym_4_3 (m00 m01 m02 m03 m11 m12 m13 m22 m23 m33 : Int) : detL 3 (lap [[m00, m01, m02, m03], [m01, m11, m12, m13], [m02, m12, m22, m23], [m03, m13, m23, m33]] 4 4 3) = detL 3 (lap [[m00, m01, m02, m03], [m01, m11, m12, m13], [m02, m12, m22, m23], [m03, m13, m23, m33]] 4 4 0) := by
  rw [show lap [[m00, m01, m02, m03], [m01, m11, m12, m13], [m02, m12, m22, m23], [m03, m13, m23, m33]] 4 4 3 = [[(m00 + (m01 + (m02 + (m03 + 0)))) - m00, -m01, -m02], [-m01, (m01 + (m11 + (m12 + (m13 + 0)))) - m11, -m12], [-m02, -m12, (m02 + (m12 + (m22 + (m23 + 0)))) - m22]] from rfl, show lap [[m00, m01, m02, m03], [m01, m11, m12, m13], [m02, m12, m22, m23], [m03, m13, m23, m33]] 4 4 0 = [[(m01 + (m11 + (m12 + (m13 + 0)))) - m11, -m12, -m13], [-m12, (m02 + (m12 + (m22 + (m23 + 0)))) - m22, -m23], [-m13, -m23, (m03 + (m13 + (m23 + (m33 + 0)))) - m33]] from rfl, det3, det3]
  unfold d3 d2
  grind
theorem lapsym_5_1 (m00 m01 m02 m03 m04 m11 m12 m13 m14 m22 m23 m24 m33 m34 m44 : Int) : detL 4 (lap [[m00, m01, m02, m03, m04], [m01, m11, m12, m13, m14], [m02, m12, m22, m23, m24], [m03, m13, m23, m33, m34], [m04, m14, m24, m34, m44]] 5 5 1) = detL 4 (lap [[m00, m01, m02, m03, m04], [m01, m11, m12, m13, m14], [m02, m12, m22, m23, m24], [m03, m13, m23, m33, m34], [m04, m14, m24, m34, m44]] 5 5 0) := by
  rw [show lap [[m00, m01, m02, m03, m04], [m01, m11, m12, m13, m14], [m02, m12, m22, m23, m24], [m03, m13, m23, m33, m34], [m04, m14, m24, m34, m44]] 5 5 1 = [[(m00 + (m01 + (m02 + (m03 + (m04 + 0))))) - m00, -m02, -m03, -m04], [-m02, (m02 + (m12 + (m22 + (m23 + (m24 + 0))))) - m22, -m23, -m24], [-m03, -m23, (m03 + (m13 + (m23 + (m33 + (m34 + 0))))) - m33, -m34], [-m04, -m24, -m34, (m04 + (m14 + (m24 + (m34 + (m44 + 0))))) - m44]] from rfl, show lap [[m00, m01, m02, m03, m04], [m01, m11, m12, m13, m14], [m02, m12, m22, m23, m24], [m03, m13, m23, m33, m34], [m04, m14, m24, m34, m44]] 5 5 0 = [[(m01 + (m11 + (m12 + (m13 + (m14 + 0))))) - m11, -m12, -m13, -m14], [-m12, (m02 + (m12 + (m22 + (m23 + (m24 + 0))))) - m22, -m23, -m24], [-m13, -m23, (m03 + (m13 + (m23 + (m33 + (m34 + 0))))) - m33, -m34], [-m14, -m24, -m34, (m04 + (m14 + (m24 + (m34 + (m44 + 0))))) - m44]] from rfl, det4, det4]
  unfold d4 d3 d2
  grind
theorem lapsym_5_2 (m00 m01 m02 m03 m04 m11 m12 m13 m14 m22 m23 m24 m33 m34 m44 : Int) : detL 4 (lap [[m00, m01, m02, m03, m04], [m01, m11, m12, m13, m14], [m02, m12, m22, m23, m24], [m03, m13, m23, m33, m34], [m04, m14, m24, m34, m44]] 5 5 2) = detL 4 (lap [[m00, m01, m02, m03, m04], [m01, m11, m12, m13, m14], [m02, m12, m22, m23, m24], [m03, m13, m23, m33, m34], [m04, m14, m24, m34, m44]] 5 5 0) := by
  rw [show lap [[m00, m01, m02, m03, m04], [m01, m11, m12, m13, m14], [m02, m12, m22, m23, m24], [m03, m13, m23, m33, m34], [m04, m14, m24, m34, m44]] 5 5 2 = [[(m00 + (m01 + (m02 + (m03 + (m04 + 0))))) - m00, -m01, -m03, -m04], [-m01, (m01 + (m11 + (m12 + (m13 + (m14 + 0))))) - m11, -m13, -m14], [-m03, -m13, (m03 + (m13 + (m23 + (m33 + (m34 + 0))))) - m33, -m34], [-m04, -m14, -m34, (m04 + (m14 + (m24 + (m34 + (m44 + 0))))) - m44]] from rfl, show lap [[m00, m01, m02, m03, m04], [m01, m11, m12, m13, m14], [m02, m12, m22, m23, m24], [m03, m13, m23, m33, m34], [m04, m14, m24, m34, m44]] 5 5 0 = [[(m01 + (m11 + (m12 + (m13 + (m14 + 0))))) - m11, -m12, -m13, -m14], [-m12, (m02 + (m12 + (m22 + (m23 + (m24 + 0))))) - m22, -m23, -m24], [-m13, -m23, (m03 + (m13 + (m23 + (m33 + (m34 + 0))))) - m33, -m34], [-m14, -m24, -m34, (m04 + (m14 + (m24 + (m34 + (m44 + 0))))) - m44]] from rfl, det4, det4]
  unfold d4 d3 d2
  grind
theorem lapsym_5_3 (m00 m01 m02 m03 m04 m11 m12 m13 m14 m22 m23 m24 m33 m34 m44 : Int) : detL 4 (lap [[m00, m01, m02, m03, m04], [m01, m11, m12, m13, m14], [m02, m12, m22, m23, m24], [m03, m13, m23, m33, m34], [m04, m14, m24, m34, m44]] 5 5 3) = detL 4 (lap [[m00, m01, m02, m03, m04], [m01, m11, m12, m13, m14], [m02, m12, m22, m23, m24], [m03, m13, m23, m33, m34], [m04, m14, m24, m34, m44]] 5 5 0) := by
  rw [show lap [[m00, m01, m02, m03, m04], [m01, m11, m12, m13, m14], [m02, m12, m22, m23, m24], [m03, m13, m23, m33, m34], [m04, m14, m24, m34, m44]] 5 5 3 = [[(m00 + (m01 + (m02 + (m03 + (m04 + 0))))) - m00, -m01, -m02, -m04], [-m01, (m01 + (m11 + (m12 + (m13 + (m14 + 0))))) - m11, -m12, -m14], [-m02, -m12, (m02 + (m12 + (m22 + (m23 + (m24 + 0))))) - m22, -m24], [-m04, -m14, -m24, (m04 + (m14 + (m24 + (m34 + (m44 + 0))))) - m44]] from rfl, show lap [[m00, m01, m02, m03, m04], [m01, m11, m12, m13, m14], [m02, m12, m22, m23, m24], [m03, m13, m23, m33, m34], [m04, m14, m24, m34, m44]] 5 5 0 = [[(m01 + (m11 + (m12 + (m13 + (m14 + 0))))) - m11, -m12, -m13, -m14], [-m12, (m02 + (m12 + (m22 + (m23 + (m24 + 0))))) - m22, -m23, -m24], [-m13, -m23, (m03 + (m13 + (m23 + (m33 + (m34 + 0))))) - m33, -m34], [-m14, -m24, -m34, (m04 + (m14 + (m24 + (m34 + (m44 + 0))))) - m44]] from rfl, det4, det4]
  unfold d4 d3 d2
  grind
theorem lapsym_5_4 (m00 m01 m02 m03 m04 m11 m12 m13 m14 m22 m23 m24 m33 m34 m44 : Int) : detL 4 (lap [[m00, m01, m02, m03, m04], [m01, m11, m12, m13, m14], [m02, m12, m22, m23, m24], [m03, m13, m23, m33, m34], [m04, m14, m24, m34, m44]] 5 5 4) = detL 4 (lap [[m00, m01, m02, m03, m04], [m01, m11, m12, m13, m14], [m02, m12, m22, m23, m24], [m03, m13, m23, m33, m34], [m04, m14, m24, m34, m44]] 5 5 0) := by
  rw [show lap [[m00, m01, m02, m03, m04], [m01, m11, m12, m13, m14], [m02, m12, m22, m23, m24], [m03, m13, m23, m33, m34], [m04, m14, m24, m34, m44]] 5 5 4 = [[(m00 + (m01 + (m02 + (m03 + (m04 + 0))))) - m00, -m01, -m02, -m03], [-m01, (m01 + (m11 + (m12 + (m13 + (m14 + 0))))) - m11, -m12, -m13], [-m02, -m12, (m02 + (m12 + (m22 + (m23 + (m24 + 0))))) - m22, -m23], [-m03, -m13, -m23, (m03 + (m13 + (m23 + (m33 + (m34 + 0))))) - m33]] from rfl, show lap [[m00, m01, m02, m03, m04], [m01, m11, m12, m13, m14], [m02, m12, m22, m23, m24], [m03, m13, m23, m33, m34], [m04, m14, m24, m34, m44]] 5 5 0 = [[(m01 + (m11 + (m12 + (m13 + (m14 + 0))))) - m11, -m12, -m13, -m14], [-m12, (m02 + (m12 + (m22 + (m23 + (m24 + 0))))) - m22, -m23, -m24], [-m13, -m23, (m03 + (m13 + (m23 + (m33 + (m34 + 0))))) - m33, -m34], [-m14, -m24, -m34, (m04 + (m14 + (m24 + (m34 + (m44 + 0))))) - m44]] from rfl, det4, det4]
  unfold d4 d3 d2
  grind
set_option maxHeartbeats 3200000 in
theorem lap_sym {n : Nat} {M : List (List Int)} (h : Good n M) (hs : ∀ i j, i < n → j < n → (M.getD i []).getD j 0 = (M.getD j []).getD i 0) (r : Nat) (hr : r < n) : detL (n - 1) (lap M n n r) = detL (n - 1) (lap M n n 0) := by
  obtain ⟨h1, h2, h3, h4⟩ := h
  rcases (show n = 1 ∨ n = 2 ∨ n = 3 ∨ n = 4 ∨ n = 5 by omega) with rfl | rfl | rfl | rfl | rfl
  · obtain rfl : r = 0 := by omega
    rfl
  · obtain ⟨r0, r1, rfl⟩ := list2 h1
    obtain ⟨m00, m01, rfl⟩ := list2 (h4 r0 (by simp)).1
    obtain ⟨n10, m11, rfl⟩ := list2 (h4 r1 (by simp)).1
    obtain rfl : m01 = n10 := (hs 1 0 (by decide) (by decide)).symm
    rcases (show r = 0 ∨ r = 1 by omega) with rfl | rfl
    · rfl
    · exact lapsym_2_1 m00 m01 m11
  · obtain ⟨r0, r1, r2, rfl⟩ := list3 h1
    obtain ⟨m00, m01, m02, rfl⟩ := list3 (h4 r0 (by simp)).1
    obtain ⟨n10, m11, m12, rfl⟩ := list3 (h4 r1 (by simp)).1
    obtain ⟨n20, n21, m22, rfl⟩ := list3 (h4 r2 (by simp)).1
    obtain rfl : m01 = n10 := (hs 1 0 (by decide) (by decide)).symm
    obtain rfl : m02 = n20 := (hs 2 0 (by decide) (by decide)).symm
    obtain rfl : m12 = n21 := (hs 2 1 (by decide) (by decide)).symm
    rcases (show r = 0 ∨ r = 1 ∨ r = 2 by omega) with rfl | rfl | rfl
    · rfl
    · exact lapsym_3_1 m00 m01 m02 m11 m12 m22
    · exact lapsym_3_2 m00 m01 m02 m11 m12 m22
  · obtain ⟨r0, r1, r2, r3, rfl⟩ := list4 h1
    obtain ⟨m00, m01, m02, m03, rfl⟩ := list4 (h4 r0 (by simp)).1
    obtain ⟨n10, m11, m12, m13, rfl⟩ := list4 (h4 r1 (by simp)).1
    obtain ⟨n20, n21, m22, m23, rfl⟩ := list4 (h4 r2 (by simp)).1
    obtain ⟨n30, n31, n32, m33, rfl⟩ := list4 (h4 r3 (by simp)).1
    obtain rfl : m01 = n10 := (hs 1 0 (by decide) (by decide)).symm
    obtain rfl : m02 = n20 := (hs 2 0 (by decide) (by decide)).symm
    obtain rfl : m12 = n21 := (hs 2 1 (by decide) (by decide)).symm
    obtain rfl : m03 = n30 := (hs 3 0 (by decide) (by decide)).symm
    obtain rfl : m13 = n31 := (hs 3 1 (by decide) (by decide)).symm
    obtain rfl : m23 = n32 := (hs 3 2 (by decide) (by decide)).symm
    rcases (show r = 0 ∨ r = 1 ∨ r = 2 ∨ r = 3 by omega) with rfl | rfl | rfl | rfl
    · rfl
    · exact lapsym_4_1 m00 m01 m02 m03 m11 m12 m13 m22 m23 m33
    · exact lapsym_4_2 m00 m01 m02 m03 m11 m12 m13 m22 m23 m33
    · exact lapsym_4_3 m00 m01 m02 m03 m11 m12 m13 m22 m23 m33
  · obtain ⟨r0, r1, r2, r3, r4, rfl⟩ := list5 h1
    obtain ⟨m00, m01, m02, m03, m04, rfl⟩ := list5 (h4 r0 (by simp)).1
    obtain ⟨n10, m11, m12, m13, m14, rfl⟩ := list5 (h4 r1 (by simp)).1
    obtain ⟨n20, n21, m22, m23, m24, rfl⟩ := list5 (h4 r2 (by simp)).1
    obtain ⟨n30, n31, n32, m33, m34, rfl⟩ := list5 (h4 r3 (by simp)).1
    obtain ⟨n40, n41, n42, n43, m44, rfl⟩ := list5 (h4 r4 (by simp)).1
    obtain rfl : m01 = n10 := (hs 1 0 (by decide) (by decide)).symm
    obtain rfl : m02 = n20 := (hs 2 0 (by decide) (by decide)).symm
    obtain rfl : m12 = n21 := (hs 2 1 (by decide) (by decide)).symm
    obtain rfl : m03 = n30 := (hs 3 0 (by decide) (by decide)).symm
    obtain rfl : m13 = n31 := (hs 3 1 (by decide) (by decide)).symm
    obtain rfl : m23 = n32 := (hs 3 2 (by decide) (by decide)).symm
    obtain rfl : m04 = n40 := (hs 4 0 (by decide) (by decide)).symm
    obtain rfl : m14 = n41 := (hs 4 1 (by decide) (by decide)).symm
    obtain rfl : m24 = n42 := (hs 4 2 (by decide) (by decide)).symm
    obtain rfl : m34 = n43 := (hs 4 3 (by decide) (by decide)).symm
    rcases (show r = 0 ∨ r = 1 ∨ r = 2 ∨ r = 3 ∨ r = 4 by omega) with rfl | rfl | rfl | rfl | rfl
    · rfl
    · exact lapsym_5_1 m00 m01 m02 m03 m04 m11 m12 m13 m14 m22 m23 m24 m33 m34 m44
    · exact lapsym_5_2 m00 m01 m02 m03 m04 m11 m12 m13 m14 m22 m23 m24 m33 m34 m44
    · exact lapsym_5_3 m00 m01 m02 m03 m04 m11 m12 m13 m14 m22 m23 m24 m33 m34 m44
    · exact lapsym_5_4 m00 m01 m02 m03 m04 m11 m12 m13 m14 m22 m23 m24 m33 m34 m44
theorem gcdF_dvd : ∀ (l : List Nat) (g : Nat), gcdF l g ∣ g ∧ ∀ x ∈ l, gcdF l g ∣ x
  | [], g => ⟨Nat.dvd_refl _, fun x hx => by cases hx⟩
  | y :: r, g => by
    obtain ⟨h1, h2⟩ := gcdF_dvd r (Nat.gcd y g)
    refine ⟨Nat.dvd_trans h1 (Nat.gcd_dvd_right y g), fun x hx => ?_⟩
    rcases List.mem_cons.1 hx with rfl | hx
    · exact Nat.dvd_trans h1 (Nat.gcd_dvd_left x g)
    · exact h2 x hx
/-- What low leaves is all, divided by one number. -/
theorem lowN_mul (l : List Nat) : ∃ c, 0 < c ∧ ∀ i, l.getD i 0 = c * (lowN l).getD i 0 := by
  unfold lowN
  by_cases h : 1 < gcdF l 0
  · rw [if_pos h]
    refine ⟨gcdF l 0, by omega, fun i => ?_⟩
    have hd := (gcdF_dvd l 0).2
    rw [List.getD_eq_getElem?_getD, List.getD_eq_getElem?_getD, List.getElem?_map]
    cases hi : l[i]? with
    | none => simp
    | some x => simp only [Option.map_some, Option.getD_some]; exact (Nat.mul_div_cancel' (hd x (List.mem_of_getElem? hi))).symm
  · rw [if_neg h]
    exact ⟨1, by decide, fun i => by rw [Nat.one_mul]⟩
theorem lowN_len (l : List Nat) : (lowN l).length = l.length := by unfold lowN; split <;> simp
theorem lowN_le (l : List Nat) (i : Nat) : (lowN l).getD i 0 ≤ l.getD i 0 := by
  obtain ⟨c, h1, h2⟩ := lowN_mul l
  rw [h2 i]
  exact Nat.le_mul_of_pos_left _ h1
theorem restN_get {n : Nat} {M : List (List Int)} (h : Good n M) (i : Nat) (hi : i < n) : (((List.range n).map (outN M n)).getD i 0 : Int) = outV M n i := by
  rw [List.getD_eq_getElem?_getD, List.getElem?_map, List.getElem?_range hi]
  exact Int.toNat_of_nonneg (outV_nn h i hi)
theorem restN_bd {n : Nat} {M : List (List Int)} (h : Good n M) (i : Nat) (hi : i < n) : (restN M n).getD i 0 ≤ 4428675000 := by
  have h1 := lowN_le ((List.range n).map (outN M n)) i
  have h2 := restN_get h i hi
  have h3 := outV_bd h i hi
  unfold restN
  omega
theorem rest_back {n : Nat} {M : List (List Int)} (h : Good n M) (hs : ∀ i j, i < n → j < n → (M.getD i []).getD j 0 = (M.getD j []).getD i 0) (i j : Nat) (hi : i < n) (hj : j < n) :
    ((restN M n).getD i 0 : Int) * sumL (M.getD j []) = ((restN M n).getD j 0 : Int) * sumL (M.getD i []) := by
  obtain ⟨c, hc, hl⟩ := lowN_mul ((List.range n).map (outN M n))
  have ei := restN_get h i hi
  have ej := restN_get h j hj
  rw [hl i] at ei
  rw [hl j] at ej
  unfold outV at ei ej
  rw [lap_sym h hs i hi] at ei
  rw [lap_sym h hs j hj] at ej
  unfold restN
  generalize (lowN ((List.range n).map (outN M n))).getD i 0 = x at *
  generalize (lowN ((List.range n).map (outN M n))).getD j 0 = y at *
  generalize detL (n - 1) (lap M n n 0) = D at *
  generalize sumL (M.getD i []) = s at *
  generalize sumL (M.getD j []) = t at *
  rw [Int.natCast_mul] at ei ej
  have hc' : (c : Int) ≠ 0 := by omega
  apply Int.eq_of_mul_eq_mul_left hc'
  rw [← Int.mul_assoc, ← Int.mul_assoc, ei, ej, Int.mul_assoc, Int.mul_assoc, Int.mul_comm s t]
end Go.Proofs.Ytidnmdfpnmahpaa
