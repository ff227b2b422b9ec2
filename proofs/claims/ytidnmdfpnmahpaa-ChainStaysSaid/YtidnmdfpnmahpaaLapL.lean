/- What chain.Rest reckons with: weights without a root's row and column; their determinants are not below 0. No condition. -/
import Derived.Test.YtidnmdfpnmahpaaDetL
import Derived.Test.YtidnmdfpnmahpaaSum
set_option linter.unusedSimpArgs false
set_option linter.unusedVariables false
set_option maxRecDepth 20000
namespace Go.Proofs.Ytidnmdfpnmahpaa
def d2 (a b c d : Int) : Int := a * d - b * c
def d3 (a b c d e f g h i : Int) : Int := a * d2 e f h i - b * d2 d f g i + c * d2 d e g h
def d4 (a b c d e f g h i j k l m n o p : Int) : Int := a * d3 f g h j k l n o p - b * d3 e g h i k l m o p + c * d3 e f h i j l m n p - d * d3 e f g i j k m n o
theorem det1 (a : Int) : detL 1 [[a]] = a := by simp [detL, accD, sgn]
theorem det2 (a b c d : Int) : detL 2 [[a, b], [c, d]] = d2 a b c d := by
  simp [detL, accD, minorL, sgn, d2]; grind
theorem det3 (a b c d e f g h i : Int) : detL 3 [[a, b, c], [d, e, f], [g, h, i]] = d3 a b c d e f g h i := by
  rw [show detL 3 [[a, b, c], [d, e, f], [g, h, i]] = accD (fun q => detL 2 (minorL [[d, e, f], [g, h, i]] q)) [a, b, c] 3 from rfl]
  simp only [accD]
  rw [show minorL [[d, e, f], [g, h, i]] 0 = [[e, f], [h, i]] from rfl, show minorL [[d, e, f], [g, h, i]] 1 = [[d, f], [g, i]] from rfl, show minorL [[d, e, f], [g, h, i]] 2 = [[d, e], [g, h]] from rfl, det2, det2, det2]
  simp [sgn, d3]; grind
theorem det4 (a b c d e f g h i j k l m n o p : Int) : detL 4 [[a, b, c, d], [e, f, g, h], [i, j, k, l], [m, n, o, p]] = d4 a b c d e f g h i j k l m n o p := by
  rw [show detL 4 [[a, b, c, d], [e, f, g, h], [i, j, k, l], [m, n, o, p]] = accD (fun q => detL 3 (minorL [[e, f, g, h], [i, j, k, l], [m, n, o, p]] q)) [a, b, c, d] 4 from rfl]
  simp only [accD]
  rw [show minorL [[e, f, g, h], [i, j, k, l], [m, n, o, p]] 0 = [[f, g, h], [j, k, l], [n, o, p]] from rfl, show minorL [[e, f, g, h], [i, j, k, l], [m, n, o, p]] 1 = [[e, g, h], [i, k, l], [m, o, p]] from rfl,
    show minorL [[e, f, g, h], [i, j, k, l], [m, n, o, p]] 2 = [[e, f, h], [i, j, l], [m, n, p]] from rfl, show minorL [[e, f, g, h], [i, j, k, l], [m, n, o, p]] 3 = [[e, f, g], [i, j, k], [m, n, o]] from rfl, det3, det3, det3, det3]
  simp [sgn, d4]; grind
theorem nn2 {s1 s2 a b : Int} (h1 : 0 ≤ s1) (h2 : 0 ≤ s2) (ha : 0 ≤ a) (hb : 0 ≤ b) : 0 ≤ d2 (s1 + a) (-a) (-b) (s2 + b) := by
  have e : d2 (s1 + a) (-a) (-b) (s2 + b) = s1 * (s2 + b) + s2 * a := by unfold d2; grind
  rw [e]
  exact Int.add_nonneg (Int.mul_nonneg h1 (by omega)) (Int.mul_nonneg h2 ha)
theorem nn3 {s1 s2 s3 a12 a13 a21 a23 a31 a32 : Int} (h1 : 0 ≤ s1) (h2 : 0 ≤ s2) (h3 : 0 ≤ s3) (h12 : 0 ≤ a12) (h13 : 0 ≤ a13) (h21 : 0 ≤ a21) (h23 : 0 ≤ a23) (h31 : 0 ≤ a31) (h32 : 0 ≤ a32) :
    0 ≤ d3 (s1 + a12 + a13) (-a12) (-a13) (-a21) (s2 + a21 + a23) (-a23) (-a31) (-a32) (s3 + a31 + a32) := by
  have e : d3 (s1 + a12 + a13) (-a12) (-a13) (-a21) (s2 + a21 + a23) (-a23) (-a31) (-a32) (s3 + a31 + a32) =
    s1 * d2 ((s2 + a21) + a23) (-a23) (-a32) ((s3 + a31) + a32) + s2 * d2 (a12 + a13) (-a13) (-a31) ((s3 + a32) + a31) + s3 * d2 (a13 + a12) (-a12) (-a21) (a23 + a21) := by unfold d3 d2; grind
  rw [e]
  exact Int.add_nonneg (Int.add_nonneg (Int.mul_nonneg h1 (nn2 (by omega) (by omega) h23 h32)) (Int.mul_nonneg h2 (nn2 h12 (by omega) h13 h31))) (Int.mul_nonneg h3 (nn2 h13 h23 h12 h21))
theorem nn4 {s1 s2 s3 s4 a12 a13 a14 a21 a23 a24 a31 a32 a34 a41 a42 a43 : Int} (h1 : 0 ≤ s1) (h2 : 0 ≤ s2) (h3 : 0 ≤ s3) (h4 : 0 ≤ s4) (h12 : 0 ≤ a12) (h13 : 0 ≤ a13) (h14 : 0 ≤ a14) (h21 : 0 ≤ a21) (h23 : 0 ≤ a23) (h24 : 0 ≤ a24) (h31 : 0 ≤ a31) (h32 : 0 ≤ a32) (h34 : 0 ≤ a34) (h41 : 0 ≤ a41) (h42 : 0 ≤ a42) (h43 : 0 ≤ a43) :
    0 ≤ d4 (s1 + a12 + a13 + a14) (-a12) (-a13) (-a14) (-a21) (s2 + a21 + a23 + a24) (-a23) (-a24) (-a31) (-a32) (s3 + a31 + a32 + a34) (-a34) (-a41) (-a42) (-a43) (s4 + a41 + a42 + a43) := by
  have e : d4 (s1 + a12 + a13 + a14) (-a12) (-a13) (-a14) (-a21) (s2 + a21 + a23 + a24) (-a23) (-a24) (-a31) (-a32) (s3 + a31 + a32 + a34) (-a34) (-a41) (-a42) (-a43) (s4 + a41 + a42 + a43) =
    s1 * d3 ((s2 + a21) + a23 + a24) (-a23) (-a24) (-a32) ((s3 + a31) + a32 + a34) (-a34) (-a42) (-a43) ((s4 + a41) + a42 + a43)
    + s2 * d3 (a12 + a13 + a14) (-a13) (-a14) (-a31) ((s3 + a32) + a31 + a34) (-a34) (-a41) (-a43) ((s4 + a42) + a41 + a43)
    + s3 * d3 (a13 + a12 + a14) (-a12) (-a14) (-a21) (a23 + a21 + a24) (-a24) (-a41) (-a42) ((s4 + a43) + a41 + a42)
    + s4 * d3 (a14 + a12 + a13) (-a12) (-a13) (-a21) (a24 + a21 + a23) (-a23) (-a31) (-a32) (a34 + a31 + a32) := by unfold d4 d3 d2; grind
  rw [e]
  exact Int.add_nonneg (Int.add_nonneg (Int.add_nonneg (Int.mul_nonneg h1 (nn3 (by omega) (by omega) (by omega) h23 h24 h32 h34 h42 h43)) (Int.mul_nonneg h2 (nn3 h12 (by omega) (by omega) h13 h14 h31 h34 h41 h43))) (Int.mul_nonneg h3 (nn3 h13 h23 (by omega) h12 h14 h21 h24 h41 h42))) (Int.mul_nonneg h4 (nn3 h14 h24 h34 h12 h13 h21 h23 h31 h32))
def idxR (j root : Nat) : List Nat := (List.range j).filter (fun x => x != root)
def lapE (M : List (List Int)) (i j : Nat) : Int := if i = j then sumL (M.getD i []) - (M.getD i []).getD i 0 else -((M.getD i []).getD j 0)
def lapRow (M : List (List Int)) (j root i : Nat) : List Int := (idxR j root).map (lapE M i)
def lap (M : List (List Int)) (n i root : Nat) : List (List Int) := (idxR i root).map (lapRow M n root)
/-- Rows of just so many. -/
theorem list1 {α : Type} : ∀ {l : List α}, l.length = 1 → ∃ a, l = [a]
  | [a], _ => ⟨a, rfl⟩
theorem list2 {α : Type} : ∀ {l : List α}, l.length = 2 → ∃ a b, l = [a, b]
  | [a, b], _ => ⟨a, b, rfl⟩
theorem list3 {α : Type} : ∀ {l : List α}, l.length = 3 → ∃ a b c, l = [a, b, c]
  | [a, b, c], _ => ⟨a, b, c, rfl⟩
theorem list4 {α : Type} : ∀ {l : List α}, l.length = 4 → ∃ a b c d, l = [a, b, c, d]
  | [a, b, c, d], _ => ⟨a, b, c, d, rfl⟩
theorem list5 {α : Type} : ∀ {l : List α}, l.length = 5 → ∃ a b c d e, l = [a, b, c, d, e]
  | [a, b, c, d, e], _ => ⟨a, b, c, d, e, rfl⟩
theorem lapnn_2_0 (m00 m01 m10 m11 : Int) (h00 : 0 ≤ m00) (h01 : 0 ≤ m01) (h10 : 0 ≤ m10) (h11 : 0 ≤ m11) : 0 ≤ detL 1 (lap [[m00, m01], [m10, m11]] 2 2 0) := by
  rw [show lap [[m00, m01], [m10, m11]] 2 2 0 = [[(m10 + (m11 + 0)) - m11]] from rfl, det1]
  omega
theorem lapnn_2_1 (m00 m01 m10 m11 : Int) (h00 : 0 ≤ m00) (h01 : 0 ≤ m01) (h10 : 0 ≤ m10) (h11 : 0 ≤ m11) : 0 ≤ detL 1 (lap [[m00, m01], [m10, m11]] 2 2 1) := by
  rw [show lap [[m00, m01], [m10, m11]] 2 2 1 = [[(m00 + (m01 + 0)) - m00]] from rfl, det1]
  omega
theorem lapnn_3_0 (m00 m01 m02 m10 m11 m12 m20 m21 m22 : Int) (h00 : 0 ≤ m00) (h01 : 0 ≤ m01) (h02 : 0 ≤ m02) (h10 : 0 ≤ m10) (h11 : 0 ≤ m11) (h12 : 0 ≤ m12) (h20 : 0 ≤ m20) (h21 : 0 ≤ m21) (h22 : 0 ≤ m22) : 0 ≤ detL 2 (lap [[m00, m01, m02], [m10, m11, m12], [m20, m21, m22]] 3 3 0) := by
  rw [show lap [[m00, m01, m02], [m10, m11, m12], [m20, m21, m22]] 3 3 0 = [[(m10 + (m11 + (m12 + 0))) - m11, -m12], [-m21, (m20 + (m21 + (m22 + 0))) - m22]] from rfl, det2]
  have h := nn2 h10 h20 h12 h21
  refine Int.le_trans h (Int.le_of_eq ?_)
  congr 1 <;> omega
theorem lapnn_3_1 (m00 m01 m02 m10 m11 m12 m20 m21 m22 : Int) (h00 : 0 ≤ m00) (h01 : 0 ≤ m01) (h02 : 0 ≤ m02) (h10 : 0 ≤ m10) (h11 : 0 ≤ m11) (h12 : 0 ≤ m12) (h20 : 0 ≤ m20) (h21 : 0 ≤ m21) (h22 : 0 ≤ m22) : 0 ≤ detL 2 (lap [[m00, m01, m02], [m10, m11, m12], [m20, m21, m22]] 3 3 1) := by
  rw [show lap [[m00, m01, m02], [m10, m11, m12], [m20, m21, m22]] 3 3 1 = [[(m00 + (m01 + (m02 + 0))) - m00, -m02], [-m20, (m20 + (m21 + (m22 + 0))) - m22]] from rfl, det2]
  have h := nn2 h01 h21 h02 h20
  refine Int.le_trans h (Int.le_of_eq ?_)
  congr 1 <;> omega
theorem lapnn_3_2 (m00 m01 m02 m10 m11 m12 m20 m21 m22 : Int) (h00 : 0 ≤ m00) (h01 : 0 ≤ m01) (h02 : 0 ≤ m02) (h10 : 0 ≤ m10) (h11 : 0 ≤ m11) (h12 : 0 ≤ m12) (h20 : 0 ≤ m20) (h21 : 0 ≤ m21) (h22 : 0 ≤ m22) : 0 ≤ detL 2 (lap [[m00, m01, m02], [m10, m11, m12], [m20, m21, m22]] 3 3 2) := by
  rw [show lap [[m00, m01, m02], [m10, m11, m12], [m20, m21, m22]] 3 3 2 = [[(m00 + (m01 + (m02 + 0))) - m00, -m01], [-m10, (m10 + (m11 + (m12 + 0))) - m11]] from rfl, det2]
  have h := nn2 h02 h12 h01 h10
  refine Int.le_trans h (Int.le_of_eq ?_)
  congr 1 <;> omega
theorem lapnn_4_0 (m00 m01 m02 m03 m10 m11 m12 m13 m20 m21 m22 m23 m30 m31 m32 m33 : Int) (h00 : 0 ≤ m00) (h01 : 0 ≤ m01) (h02 : 0 ≤ m02) (h03 : 0 ≤ m03) (h10 : 0 ≤ m10) (h11 : 0 ≤ m11) (h12 : 0 ≤ m12) (h13 : 0 ≤ m13) (h20 : 0 ≤ m20) (h21 : 0 ≤ m21) (h22 : 0 ≤ m22) (h23 : 0 ≤ m23) (h30 : 0 ≤ m30) (h31 : 0 ≤ m31) (h32 : 0 ≤ m32) (h33 : 0 ≤ m33) : 0 ≤ detL 3 (lap [[m00, m01, m02, m03], [m10, m11, m12, m13], [m20, m21, m22, m23], [m30, m31, m32, m33]] 4 4 0) := by
  rw [show lap [[m00, m01, m02, m03], [m10, m11, m12, m13], [m20, m21, m22, m23], [m30, m31, m32, m33]] 4 4 0 = [[(m10 + (m11 + (m12 + (m13 + 0)))) - m11, -m12, -m13], [-m21, (m20 + (m21 + (m22 + (m23 + 0)))) - m22, -m23], [-m31, -m32, (m30 + (m31 + (m32 + (m33 + 0)))) - m33]] from rfl, det3]
  have h := nn3 h10 h20 h30 h12 h13 h21 h23 h31 h32
  refine Int.le_trans h (Int.le_of_eq ?_)
  congr 1 <;> omega
theorem lapnn_4_1 (m00 m01 m02 m03 m10 m11 m12 m13 m20 m21 m22 m23 m30 m31 m32 m33 : Int) (h00 : 0 ≤ m00) (h01 : 0 ≤ m01) (h02 : 0 ≤ m02) (h03 : 0 ≤ m03) (h10 : 0 ≤ m10) (h11 : 0 ≤ m11) (h12 : 0 ≤ m12) (h13 : 0 ≤ m13) (h20 : 0 ≤ m20) (h21 : 0 ≤ m21) (h22 : 0 ≤ m22) (h23 : 0 ≤ m23) (h30 : 0 ≤ m30) (h31 : 0 ≤ m31) (h32 : 0 ≤ m32) (h33 : 0 ≤ m33) : 0 ≤ detL 3 (lap [[m00, m01, m02, m03], [m10, m11, m12, m13], [m20, m21, m22, m23], [m30, m31, m32, m33]] 4 4 1) := by
  rw [show lap [[m00, m01, m02, m03], [m10, m11, m12, m13], [m20, m21, m22, m23], [m30, m31, m32, m33]] 4 4 1 = [[(m00 + (m01 + (m02 + (m03 + 0)))) - m00, -m02, -m03], [-m20, (m20 + (m21 + (m22 + (m23 + 0)))) - m22, -m23], [-m30, -m32, (m30 + (m31 + (m32 + (m33 + 0)))) - m33]] from rfl, det3]
  have h := nn3 h01 h21 h31 h02 h03 h20 h23 h30 h32
  refine Int.le_trans h (Int.le_of_eq ?_)
  congr 1 <;> omega
theorem lapnn_4_2 (m00 m01 m02 m03 m10 m11 m12 m13 m20 m21 m22 m23 m30 m31 m32 m33 : Int) (h00 : 0 ≤ m00) (h01 : 0 ≤ m01) (h02 : 0 ≤ m02) (h03 : 0 ≤ m03) (h10 : 0 ≤ m10) (h11 : 0 ≤ m11) (h12 : 0 ≤ m12) (h13 : 0 ≤ m13) (h20 : 0 ≤ m20) (h21 : 0 ≤ m21) (h22 : 0 ≤ m22) (h23 : 0 ≤ m23) (h30 : 0 ≤ m30) (h31 : 0 ≤ m31) (h32 : 0 ≤ m32) (h33 : 0 ≤ m33) : 0 ≤ detL 3 (lap [[m00, m01, m02, m03], [m10, m11, m12, m13], [m20, m21, m22, m23], [m30, m31, m32, m33]] 4 4 2) := by
  rw [show lap [[m00, m01, m02, m03], [m10, m11, m12, m13], [m20, m21, m22, m23], [m30, m31, m32, m33]] 4 4 2 = [[(m00 + (m01 + (m02 + (m03 + 0)))) - m00, -m01, -m03], [-m10, (m10 + (m11 + (m12 + (m13 + 0)))) - m11, -m13], [-m30, -m31, (m30 + (m31 + (m32 + (m33 + 0)))) - m33]] from rfl, det3]
  have h := nn3 h02 h12 h32 h01 h03 h10 h13 h30 h31
  refine Int.le_trans h (Int.le_of_eq ?_)
  congr 1 <;> omega
theorem lapnn_4_3 (m00 m01 m02 m03 m10 m11 m12 m13 m20 m21 m22 m23 m30 m31 m32 m33 : Int) (h00 : 0 ≤ m00) (h01 : 0 ≤ m01) (h02 : 0 ≤ m02) (h03 : 0 ≤ m03) (h10 : 0 ≤ m10) (h11 : 0 ≤ m11) (h12 : 0 ≤ m12) (h13 : 0 ≤ m13) (h20 : 0 ≤ m20) (h21 : 0 ≤ m21) (h22 : 0 ≤ m22) (h23 : 0 ≤ m23) (h30 : 0 ≤ m30) (h31 : 0 ≤ m31) (h32 : 0 ≤ m32) (h33 : 0 ≤ m33) : 0 ≤ detL 3 (lap [[m00, m01, m02, m03], [m10, m11, m12, m13], [m20, m21, m22, m23], [m30, m31, m32, m33]] 4 4 3) := by
  rw [show lap [[m00, m01, m02, m03], [m10, m11, m12, m13], [m20, m21, m22, m23], [m30, m31, m32, m33]] 4 4 3 = [[(m00 + (m01 + (m02 + (m03 + 0)))) - m00, -m01, -m02], [-m10, (m10 + (m11 + (m12 + (m13 + 0)))) - m11, -m12], [-m20, -m21, (m20 + (m21 + (m22 + (m23 + 0)))) - m22]] from rfl, det3]
  have h := nn3 h03 h13 h23 h01 h02 h10 h12 h20 h21
  refine Int.le_trans h (Int.le_of_eq ?_)
  congr 1 <;> omega
theorem lapnn_5_0 (m00 m01 m02 m03 m04 m10 m11 m12 m13 m14 m20 m21 m22 m23 m24 m30 m31 m32 m33 m34 m40 m41 m42 m43 m44 : Int) (h00 : 0 ≤ m00) (h01 : 0 ≤ m01) (h02 : 0 ≤ m02) (h03 : 0 ≤ m03) (h04 : 0 ≤ m04) (h10 : 0 ≤ m10) (h11 : 0 ≤ m11) (h12 : 0 ≤ m12) (h13 : 0 ≤ m13) (h14 : 0 ≤ m14) (h20 : 0 ≤ m20) (h21 : 0 ≤ m21) (h22 : 0 ≤ m22) (h23 : 0 ≤ m23) (h24 : 0 ≤ m24) (h30 : 0 ≤ m30) (h31 : 0 ≤ m31) (h32 : 0 ≤ m32) (h33 : 0 ≤ m33) (h34 : 0 ≤ m34) (h40 : 0 ≤ m40) (h41 : 0 ≤ m41) (h42 : 0 ≤ m42) (h43 : 0 ≤ m43) (h44 : 0 ≤ m44) : 0 ≤ detL 4 (lap [[m00, m01, m02, m03, m04], [m10, m11, m12, m13, m14], [m20, m21, m22, m23, m24], [m30, m31, m32, m33, m34], [m40, m41, m42, m43, m44]] 5 5 0) := by
  rw [show lap [[m00, m01, m02, m03, m04], [m10, m11, m12, m13, m14], [m20, m21, m22, m23, m24], [m30, m31, m32, m33, m34], [m40, m41, m42, m43, m44]] 5 5 0 = [[(m10 + (m11 + (m12 + (m13 + (m14 + 0))))) - m11, -m12, -m13, -m14], [-m21, (m20 + (m21 + (m22 + (m23 + (m24 + 0))))) - m22, -m23, -m24], [-m31, -m32, (m30 + (m31 + (m32 + (m33 + (m34 + 0))))) - m33, -m34], [-m41, -m42, -m43, (m40 + (m41 + (m42 + (m43 + (m44 + 0))))) - m44]] from rfl, det4]
  have h := nn4 h10 h20 h30 h40 h12 h13 h14 h21 h23 h24 h31 h32 h34 h41 h42 h43
  refine Int.le_trans h (Int.le_of_eq ?_)
  congr 1 <;> omega
theorem lapnn_5_1 (m00 m01 m02 m03 m04 m10 m11 m12 m13 m14 m20 m21 m22 m23 m24 m30 m31 m32 m33 m34 m40 m41 m42 m43 m44 : Int) (h00 : 0 ≤ m00) (h01 : 0 ≤ m01) (h02 : 0 ≤ m02) (h03 : 0 ≤ m03) (h04 : 0 ≤ m04) (h10 : 0 ≤ m10) (h11 : 0 ≤ m11) (h12 : 0 ≤ m12) (h13 : 0 ≤ m13) (h14 : 0 ≤ m14) (h20 : 0 ≤ m20) (h21 : 0 ≤ m21) (h22 : 0 ≤ m22) (h23 : 0 ≤ m23) (h24 : 0 ≤ m24) (h30 : 0 ≤ m30) (h31 : 0 ≤ m31) (h32 : 0 ≤ m32) (h33 : 0 ≤ m33) (h34 : 0 ≤ m34) (h40 : 0 ≤ m40) (h41 : 0 ≤ m41) (h42 : 0 ≤ m42) (h43 : 0 ≤ m43) (h44 : 0 ≤ m44) : 0 ≤ detL 4 (lap [[m00, m01, m02, m03, m04], [m10, m11, m12, m13, m14], [m20, m21, m22, m23, m24], [m30, m31, m32, m33, m34], [m40, m41, m42, m43, m44]] 5 5 1) := by
  rw [show lap [[m00, m01, m02, m03, m04], [m10, m11, m12, m13, m14], [m20, m21, m22, m23, m24], [m30, m31, m32, m33, m34], [m40, m41, m42, m43, m44]] 5 5 1 = [[(m00 + (m01 + (m02 + (m03 + (m04 + 0))))) - m00, -m02, -m03, -m04], [-m20, (m20 + (m21 + (m22 + (m23 + (m24 + 0))))) - m22, -m23, -m24], [-m30, -m32, (m30 + (m31 + (m32 + (m33 + (m34 + 0))))) - m33, -m34], [-m40, -m42, -m43, (m40 + (m41 + (m42 + (m43 + (m44 + 0))))) - m44]] from rfl, det4]
  have h := nn4 h01 h21 h31 h41 h02 h03 h04 h20 h23 h24 h30 h32 h34 h40 h42 h43
  refine Int.le_trans h (Int.le_of_eq ?_)
  congr 1 <;> omega
theorem lapnn_5_2 (m00 m01 m02 m03 m04 m10 m11 m12 m13 m14 m20 m21 m22 m23 m24 m30 m31 m32 m33 m34 m40 m41 m42 m43 m44 : Int) (h00 : 0 ≤ m00) (h01 : 0 ≤ m01) (h02 : 0 ≤ m02) (h03 : 0 ≤ m03) (h04 : 0 ≤ m04) (h10 : 0 ≤ m10) (h11 : 0 ≤ m11) (h12 : 0 ≤ m12) (h13 : 0 ≤ m13) (h14 : 0 ≤ m14) (h20 : 0 ≤ m20) (h21 : 0 ≤ m21) (h22 : 0 ≤ m22) (h23 : 0 ≤ m23) (h24 : 0 ≤ m24) (h30 : 0 ≤ m30) (h31 : 0 ≤ m31) (h32 : 0 ≤ m32) (h33 : 0 ≤ m33) (h34 : 0 ≤ m34) (h40 : 0 ≤ m40) (h41 : 0 ≤ m41) (h42 : 0 ≤ m42) (h43 : 0 ≤ m43) (h44 : 0 ≤ m44) : 0 ≤ detL 4 (lap [[m00, m01, m02, m03, m04], [m10, m11, m12, m13, m14], [m20, m21, m22, m23, m24], [m30, m31, m32, m33, m34], [m40, m41, m42, m43, m44]] 5 5 2) := by
  rw [show lap [[m00, m01, m02, m03, m04], [m10, m11, m12, m13, m14], [m20, m21, m22, m23, m24], [m30, m31, m32, m33, m34], [m40, m41, m42, m43, m44]] 5 5 2 = [[(m00 + (m01 + (m02 + (m03 + (m04 + 0))))) - m00, -m01, -m03, -m04], [-m10, (m10 + (m11 + (m12 + (m13 + (m14 + 0))))) - m11, -m13, -m14], [-m30, -m31, (m30 + (m31 + (m32 + (m33 + (m34 + 0))))) - m33, -m34], [-m40, -m41, -m43, (m40 + (m41 + (m42 + (m43 + (m44 + 0))))) - m44]] from rfl, det4]
  have h := nn4 h02 h12 h32 h42 h01 h03 h04 h10 h13 h14 h30 h31 h34 h40 h41 h43
  refine Int.le_trans h (Int.le_of_eq ?_)
  congr 1 <;> omega
theorem lapnn_5_3 (m00 m01 m02 m03 m04 m10 m11 m12 m13 m14 m20 m21 m22 m23 m24 m30 m31 m32 m33 m34 m40 m41 m42 m43 m44 : Int) (h00 : 0 ≤ m00) (h01 : 0 ≤ m01) (h02 : 0 ≤ m02) (h03 : 0 ≤ m03) (h04 : 0 ≤ m04) (h10 : 0 ≤ m10) (h11 : 0 ≤ m11) (h12 : 0 ≤ m12) (h13 : 0 ≤ m13) (h14 : 0 ≤ m14) (h20 : 0 ≤ m20) (h21 : 0 ≤ m21) (h22 : 0 ≤ m22) (h23 : 0 ≤ m23) (h24 : 0 ≤ m24) (h30 : 0 ≤ m30) (h31 : 0 ≤ m31) (h32 : 0 ≤ m32) (h33 : 0 ≤ m33) (h34 : 0 ≤ m34) (h40 : 0 ≤ m40) (h41 : 0 ≤ m41) (h42 : 0 ≤ m42) (h43 : 0 ≤ m43) (h44 : 0 ≤ m44) : 0 ≤ detL 4 (lap [[m00, m01, m02, m03, m04], [m10, m11, m12, m13, m14], [m20, m21, m22, m23, m24], [m30, m31, m32, m33, m34], [m40, m41, m42, m43, m44]] 5 5 3) := by
  rw [show lap [[m00, m01, m02, m03, m04], [m10, m11, m12, m13, m14], [m20, m21, m22, m23, m24], [m30, m31, m32, m33, m34], [m40, m41, m42, m43, m44]] 5 5 3 = [[(m00 + (m01 + (m02 + (m03 + (m04 + 0))))) - m00, -m01, -m02, -m04], [-m10, (m10 + (m11 + (m12 + (m13 + (m14 + 0))))) - m11, -m12, -m14], [-m20, -m21, (m20 + (m21 + (m22 + (m23 + (m24 + 0))))) - m22, -m24], [-m40, -m41, -m42, (m40 + (m41 + (m42 + (m43 + (m44 + 0))))) - m44]] from rfl, det4]
  have h := nn4 h03 h13 h23 h43 h01 h02 h04 h10 h12 h14 h20 h21 h24 h40 h41 h42
  refine Int.le_trans h (Int.le_of_eq ?_)
  congr 1 <;> omega
theorem lapnn_5_4 (m00 m01 m02 m03 m04 m10 m11 m12 m13 m14 m20 m21 m22 m23 m24 m30 m31 m32 m33 m34 m40 m41 m42 m43 m44 : Int) (h00 : 0 ≤ m00) (h01 : 0 ≤ m01) (h02 : 0 ≤ m02) (h03 : 0 ≤ m03) (h04 : 0 ≤ m04) (h10 : 0 ≤ m10) (h11 : 0 ≤ m11) (h12 : 0 ≤ m12) (h13 : 0 ≤ m13) (h14 : 0 ≤ m14) (h20 : 0 ≤ m20) (h21 : 0 ≤ m21) (h22 : 0 ≤ m22) (h23 : 0 ≤ m23) (h24 : 0 ≤ m24) (h30 : 0 ≤ m30) (h31 : 0 ≤ m31) (h32 : 0 ≤ m32) (h33 : 0 ≤ m33) (h34 : 0 ≤ m34) (h40 : 0 ≤ m40) (h41 : 0 ≤ m41) (h42 : 0 ≤ m42) (h43 : 0 ≤ m43) (h44 : 0 ≤ m44) : 0 ≤ detL 4 (lap [[m00, m01, m02, m03, m04], [m10, m11, m12, m13, m14], [m20, m21, m22, m23, m24], [m30, m31, m32, m33, m34], [m40, m41, m42, m43, m44]] 5 5 4) := by
  rw [show lap [[m00, m01, m02, m03, m04], [m10, m11, m12, m13, m14], [m20, m21, m22, m23, m24], [m30, m31, m32, m33, m34], [m40, m41, m42, m43, m44]] 5 5 4 = [[(m00 + (m01 + (m02 + (m03 + (m04 + 0))))) - m00, -m01, -m02, -m03], [-m10, (m10 + (m11 + (m12 + (m13 + (m14 + 0))))) - m11, -m12, -m13], [-m20, -m21, (m20 + (m21 + (m22 + (m23 + (m24 + 0))))) - m22, -m23], [-m30, -m31, -m32, (m30 + (m31 + (m32 + (m33 + (m34 + 0))))) - m33]] from rfl, det4]
  have h := nn4 h04 h14 h24 h34 h01 h02 h03 h10 h12 h13 h20 h21 h23 h30 h31 h32
  refine Int.le_trans h (Int.le_of_eq ?_)
  congr 1 <;> omega
theorem Good.nn {n : Nat} {M : List (List Int)} (h : Good n M) (i j : Nat) : 0 ≤ (M.getD i []).getD j 0 := by
  by_cases hi : i < n
  · obtain ⟨h1, -, -, h2⟩ := h
    obtain ⟨h3, h4, -⟩ := h2 _ (getD_mem M i [] (by omega))
    by_cases hj : j < n
    · exact (h4 _ (getD_mem _ j 0 (by omega))).1
    · rw [List.getD_eq_getElem?_getD, List.getElem?_eq_none (by omega)]; exact Int.le_refl _
  · have : M.getD i [] = [] := by rw [List.getD_eq_getElem?_getD, List.getElem?_eq_none (by have := h.1; omega)]; rfl
    rw [this]; exact Int.le_refl _
theorem lap_nn {n : Nat} {M : List (List Int)} (h : Good n M) (r : Nat) (hr : r < n) : 0 ≤ detL (n - 1) (lap M n n r) := by
  have hnn := h.nn
  obtain ⟨h1, h2, h3, h4⟩ := h
  rcases (show n = 1 ∨ n = 2 ∨ n = 3 ∨ n = 4 ∨ n = 5 by omega) with rfl | rfl | rfl | rfl | rfl
  · show 0 ≤ detL 0 _; exact (by decide : (0 : Int) ≤ 1)
  · obtain ⟨r0, r1, rfl⟩ := list2 h1
    obtain ⟨m00, m01, rfl⟩ := list2 (h4 r0 (by simp)).1
    obtain ⟨m10, m11, rfl⟩ := list2 (h4 r1 (by simp)).1
    have h00 : 0 ≤ m00 := hnn 0 0
    have h01 : 0 ≤ m01 := hnn 0 1
    have h10 : 0 ≤ m10 := hnn 1 0
    have h11 : 0 ≤ m11 := hnn 1 1
    rcases (show r = 0 ∨ r = 1 by omega) with rfl | rfl
    · exact lapnn_2_0 m00 m01 m10 m11 h00 h01 h10 h11
    · exact lapnn_2_1 m00 m01 m10 m11 h00 h01 h10 h11
  · obtain ⟨r0, r1, r2, rfl⟩ := list3 h1
    obtain ⟨m00, m01, m02, rfl⟩ := list3 (h4 r0 (by simp)).1
    obtain ⟨m10, m11, m12, rfl⟩ := list3 (h4 r1 (by simp)).1
    obtain ⟨m20, m21, m22, rfl⟩ := list3 (h4 r2 (by simp)).1
    have h00 : 0 ≤ m00 := hnn 0 0
    have h01 : 0 ≤ m01 := hnn 0 1
    have h02 : 0 ≤ m02 := hnn 0 2
    have h10 : 0 ≤ m10 := hnn 1 0
    have h11 : 0 ≤ m11 := hnn 1 1
    have h12 : 0 ≤ m12 := hnn 1 2
    have h20 : 0 ≤ m20 := hnn 2 0
    have h21 : 0 ≤ m21 := hnn 2 1
    have h22 : 0 ≤ m22 := hnn 2 2
    rcases (show r = 0 ∨ r = 1 ∨ r = 2 by omega) with rfl | rfl | rfl
    · exact lapnn_3_0 m00 m01 m02 m10 m11 m12 m20 m21 m22 h00 h01 h02 h10 h11 h12 h20 h21 h22
    · exact lapnn_3_1 m00 m01 m02 m10 m11 m12 m20 m21 m22 h00 h01 h02 h10 h11 h12 h20 h21 h22
    · exact lapnn_3_2 m00 m01 m02 m10 m11 m12 m20 m21 m22 h00 h01 h02 h10 h11 h12 h20 h21 h22
  · obtain ⟨r0, r1, r2, r3, rfl⟩ := list4 h1
    obtain ⟨m00, m01, m02, m03, rfl⟩ := list4 (h4 r0 (by simp)).1
    obtain ⟨m10, m11, m12, m13, rfl⟩ := list4 (h4 r1 (by simp)).1
    obtain ⟨m20, m21, m22, m23, rfl⟩ := list4 (h4 r2 (by simp)).1
    obtain ⟨m30, m31, m32, m33, rfl⟩ := list4 (h4 r3 (by simp)).1
    have h00 : 0 ≤ m00 := hnn 0 0
    have h01 : 0 ≤ m01 := hnn 0 1
    have h02 : 0 ≤ m02 := hnn 0 2
    have h03 : 0 ≤ m03 := hnn 0 3
    have h10 : 0 ≤ m10 := hnn 1 0
    have h11 : 0 ≤ m11 := hnn 1 1
    have h12 : 0 ≤ m12 := hnn 1 2
    have h13 : 0 ≤ m13 := hnn 1 3
    have h20 : 0 ≤ m20 := hnn 2 0
    have h21 : 0 ≤ m21 := hnn 2 1
    have h22 : 0 ≤ m22 := hnn 2 2
    have h23 : 0 ≤ m23 := hnn 2 3
    have h30 : 0 ≤ m30 := hnn 3 0
    have h31 : 0 ≤ m31 := hnn 3 1
    have h32 : 0 ≤ m32 := hnn 3 2
    have h33 : 0 ≤ m33 := hnn 3 3
    rcases (show r = 0 ∨ r = 1 ∨ r = 2 ∨ r = 3 by omega) with rfl | rfl | rfl | rfl
    · exact lapnn_4_0 m00 m01 m02 m03 m10 m11 m12 m13 m20 m21 m22 m23 m30 m31 m32 m33 h00 h01 h02 h03 h10 h11 h12 h13 h20 h21 h22 h23 h30 h31 h32 h33
    · exact lapnn_4_1 m00 m01 m02 m03 m10 m11 m12 m13 m20 m21 m22 m23 m30 m31 m32 m33 h00 h01 h02 h03 h10 h11 h12 h13 h20 h21 h22 h23 h30 h31 h32 h33
    · exact lapnn_4_2 m00 m01 m02 m03 m10 m11 m12 m13 m20 m21 m22 m23 m30 m31 m32 m33 h00 h01 h02 h03 h10 h11 h12 h13 h20 h21 h22 h23 h30 h31 h32 h33
    · exact lapnn_4_3 m00 m01 m02 m03 m10 m11 m12 m13 m20 m21 m22 m23 m30 m31 m32 m33 h00 h01 h02 h03 h10 h11 h12 h13 h20 h21 h22 h23 h30 h31 h32 h33
  · obtain ⟨r0, r1, r2, r3, r4, rfl⟩ := list5 h1
    obtain ⟨m00, m01, m02, m03, m04, rfl⟩ := list5 (h4 r0 (by simp)).1
    obtain ⟨m10, m11, m12, m13, m14, rfl⟩ := list5 (h4 r1 (by simp)).1
    obtain ⟨m20, m21, m22, m23, m24, rfl⟩ := list5 (h4 r2 (by simp)).1
    obtain ⟨m30, m31, m32, m33, m34, rfl⟩ := list5 (h4 r3 (by simp)).1
    obtain ⟨m40, m41, m42, m43, m44, rfl⟩ := list5 (h4 r4 (by simp)).1
    have h00 : 0 ≤ m00 := hnn 0 0
    have h01 : 0 ≤ m01 := hnn 0 1
    have h02 : 0 ≤ m02 := hnn 0 2
    have h03 : 0 ≤ m03 := hnn 0 3
    have h04 : 0 ≤ m04 := hnn 0 4
    have h10 : 0 ≤ m10 := hnn 1 0
    have h11 : 0 ≤ m11 := hnn 1 1
    have h12 : 0 ≤ m12 := hnn 1 2
    have h13 : 0 ≤ m13 := hnn 1 3
    have h14 : 0 ≤ m14 := hnn 1 4
    have h20 : 0 ≤ m20 := hnn 2 0
    have h21 : 0 ≤ m21 := hnn 2 1
    have h22 : 0 ≤ m22 := hnn 2 2
    have h23 : 0 ≤ m23 := hnn 2 3
    have h24 : 0 ≤ m24 := hnn 2 4
    have h30 : 0 ≤ m30 := hnn 3 0
    have h31 : 0 ≤ m31 := hnn 3 1
    have h32 : 0 ≤ m32 := hnn 3 2
    have h33 : 0 ≤ m33 := hnn 3 3
    have h34 : 0 ≤ m34 := hnn 3 4
    have h40 : 0 ≤ m40 := hnn 4 0
    have h41 : 0 ≤ m41 := hnn 4 1
    have h42 : 0 ≤ m42 := hnn 4 2
    have h43 : 0 ≤ m43 := hnn 4 3
    have h44 : 0 ≤ m44 := hnn 4 4
    rcases (show r = 0 ∨ r = 1 ∨ r = 2 ∨ r = 3 ∨ r = 4 by omega) with rfl | rfl | rfl | rfl | rfl
    · exact lapnn_5_0 m00 m01 m02 m03 m04 m10 m11 m12 m13 m14 m20 m21 m22 m23 m24 m30 m31 m32 m33 m34 m40 m41 m42 m43 m44 h00 h01 h02 h03 h04 h10 h11 h12 h13 h14 h20 h21 h22 h23 h24 h30 h31 h32 h33 h34 h40 h41 h42 h43 h44
    · exact lapnn_5_1 m00 m01 m02 m03 m04 m10 m11 m12 m13 m14 m20 m21 m22 m23 m24 m30 m31 m32 m33 m34 m40 m41 m42 m43 m44 h00 h01 h02 h03 h04 h10 h11 h12 h13 h14 h20 h21 h22 h23 h24 h30 h31 h32 h33 h34 h40 h41 h42 h43 h44
    · exact lapnn_5_2 m00 m01 m02 m03 m04 m10 m11 m12 m13 m14 m20 m21 m22 m23 m24 m30 m31 m32 m33 m34 m40 m41 m42 m43 m44 h00 h01 h02 h03 h04 h10 h11 h12 h13 h14 h20 h21 h22 h23 h24 h30 h31 h32 h33 h34 h40 h41 h42 h43 h44
    · exact lapnn_5_3 m00 m01 m02 m03 m04 m10 m11 m12 m13 m14 m20 m21 m22 m23 m24 m30 m31 m32 m33 m34 m40 m41 m42 m43 m44 h00 h01 h02 h03 h04 h10 h11 h12 h13 h14 h20 h21 h22 h23 h24 h30 h31 h32 h33 h34 h40 h41 h42 h43 h44
    · exact lapnn_5_4 m00 m01 m02 m03 m04 m10 m11 m12 m13 m14 m20 m21 m22 m23 m24 m30 m31 m32 m33 m34 m40 m41 m42 m43 m44 h00 h01 h02 h03 h04 h10 h11 h12 h13 h14 h20 h21 h22 h23 h24 h30 h31 h32 h33 h34 h40 h41 h42 h43 h44
end Go.Proofs.Ytidnmdfpnmahpaa
