/- Cauchy and Schwarz: plain. No condition. -/
import Derived.Test.YtdlnjalkbgkhdaaBoth
set_option linter.unusedSimpArgs false
set_option linter.unusedVariables false
namespace Go.Proofs.Ytdlnjalkbgkhdaa
theorem dot_comm : ∀ x y : List Int, dot x y = dot y x
  | [], [] => rfl
  | [], _ :: _ => rfl
  | _ :: _, [] => rfl
  | a :: x, b :: y => by simp only [dot, dot_comm x y]; grind
theorem dot_self : ∀ x : List Int, dot x x = sq x
  | [] => rfl
  | a :: x => by simp only [dot, sq, dot_self x]
theorem cov_comm {x y : List Int} (h : x.length = y.length) : cov x y = cov y x := by
  unfold cov; rw [dot_comm x y, h]; grind
theorem cov_self (x : List Int) : cov x x = x.length * sq x - sm x * sm x := by
  unfold cov; rw [dot_self]
def comb (a b : Int) (x y : List Int) : List Int := List.zipWith (fun s t => a * s + b * t) x y
theorem comb_len (a b : Int) {x y : List Int} (h : x.length = y.length) : (comb a b x y).length = x.length := by
  unfold comb; rw [List.length_zipWith, ← h]; omega
theorem comb_sm (a b : Int) : ∀ {x y : List Int}, x.length = y.length → sm (comb a b x y) = a * sm x + b * sm y
  | [], [], _ => by simp [comb, sm]
  | [], _ :: _, h => by simp at h
  | _ :: _, [], h => by simp at h
  | s :: x, t :: y, h => by
    have ih := comb_sm a b (x := x) (y := y) (by simpa using h)
    unfold comb at ih ⊢
    simp only [List.zipWith_cons_cons, sm, ih]
    grind
theorem comb_sq (a b : Int) : ∀ {x y : List Int}, x.length = y.length → sq (comb a b x y) = a * a * sq x + 2 * a * b * dot x y + b * b * sq y
  | [], [], _ => by simp [comb, sq, dot]
  | [], _ :: _, h => by simp at h
  | _ :: _, [], h => by simp at h
  | s :: x, t :: y, h => by
    have ih := comb_sq a b (x := x) (y := y) (by simpa using h)
    unfold comb at ih ⊢
    simp only [List.zipWith_cons_cons, sq, dot, ih]
    grind
theorem comb_spr (a b : Int) {x y : List Int} (h : x.length = y.length) : 0 ≤ a * a * spr x + 2 * a * b * cov x y + b * b * spr y := by
  have e := spr_eq (comb a b x y)
  have hn := spr_nn (comb a b x y)
  rw [comb_len a b h, comb_sm a b h, comb_sq a b h] at e
  rw [← spr_eq x, ← spr_eq y, ← h]
  unfold cov
  rw [← e] at hn
  refine Int.le_trans hn (Int.le_of_eq ?_)
  grind
theorem sqnn (b : Int) : 0 ≤ b * b := by
  rcases Int.le_total 0 b with h | h
  · exact Int.mul_nonneg h h
  · exact Int.mul_nonneg_of_nonpos_of_nonpos h h
theorem cauchy {x y : List Int} (h : x.length = y.length) : cov x y * cov x y ≤ spr x * spr y := by
  have hs := spr_nn x
  have hu := spr_nn y
  have h1 := comb_spr (spr y) (-cov x y) h
  have h2 := comb_spr 1 (-((spr x + 1) * cov x y)) h
  generalize spr x = s at *
  generalize spr y = u at *
  generalize cov x y = b at *
  by_cases hu0 : u = 0
  · subst hu0
    have hb := sqnn b
    have e : 1 * 1 * s + 2 * 1 * -((s + 1) * b) * b + -((s + 1) * b) * -((s + 1) * b) * 0 = s - 2 * ((s + 1) * (b * b)) := by grind
    rw [e] at h2
    rcases Int.lt_or_eq_of_le hb with hb | hb
    · have : (s + 1) * 1 ≤ (s + 1) * (b * b) := Int.mul_le_mul_of_nonneg_left (by omega) (by omega)
      omega
    · rw [← hb]; omega
  · have e : u * u * s + 2 * u * -b * b + -b * -b * u = u * (s * u - b * b) := by grind
    rw [e] at h1
    have := Int.nonneg_of_mul_nonneg_right h1 (by omega)
    omega
end Go.Proofs.Ytdlnjalkbgkhdaa
