/- What any toss answers; a fraction that came in. No condition. -/
import Derived.Test.YtkdidgkanfjfmaaAl
import Derived.Lib.SmallJoins
import Derived.ProofKit
import Derived.OpenShut
set_option linter.unusedSimpArgs false
set_option linter.unusedVariables false
namespace Go.Proofs.Ytkdidgkanfjfmaa
open Go.RowKit Go.WideShapes Go.ChangeShapes Go.ChangeAt
theorem toss_any (v : Value) (z : List Bool) (num den : Int) (w : World) (h : RdB w v z) :
    Calls Try.prog 10 #[v, .agg #[.int .i64 num, .int .i64 den]] w fun e w' => Below w.heap.size w w' ∧ ∃ (b : Bool) (u : Nat) (c : Int), e = .returned (.tuple #[.bool b, .int .i64 u, .int .i64 c]) ∧
      ((c = 0 ∧ RightP num den ∧ tossN num.toNat den.toNat z = some (b, u)) ∨ (c = 7 ∧ u = 0 ∧ b = false ∧ RightP num den ∧ tossN num.toNat den.toNat z = none) ∨ (c = 2 ∧ u = 0 ∧ b = false ∧ ¬ RightP num den)) := by
  by_cases hr : RightP num den
  · have h1 := toss_ok v z num.toNat den.toNat (by have := hr.1; omega) (by have := hr.2.1; omega) (by have := hr.2.2.2; omega) w h
    rw [show ((num.toNat : Nat) : Int) = num by have := hr.2.2.1; omega, show ((den.toNat : Nat) : Int) = den by have := hr.1; omega] at h1
    refine h1.mono fun e w' ⟨h2, h3⟩ => ⟨h3, ?_⟩
    generalize tossN num.toNat den.toNat z = o at *
    cases o with
    | none => exact ⟨false, 0, 7, h2, .inr (.inl ⟨rfl, rfl, rfl, hr, rfl⟩)⟩
    | some q => exact ⟨q.1, q.2, 0, h2, .inl ⟨rfl, hr, rfl⟩⟩
  · exact (toss_bad v num den hr w).mono fun e w' ⟨h2, h3⟩ => ⟨h3, false, 0, 2, h2, .inr (.inr ⟨rfl, rfl, rfl, hr⟩)⟩
def I64 (x : Int) : Prop := -9223372036854775808 ≤ x ∧ x ≤ 9223372036854775807
theorem open_frac {W : World} {H : Type} {enc : TypeId × Value → H} {r : Reach} {b0 : Nat} {v : Value} {d : DataW H} {p : List MemPlace} (hv : Value.okWide Try.prog W r b0 23 v)
    (h : DataW.Trod enc Try.prog W 0 (fun _ => true) true 23 v d p) (_lt : ∀ x ∈ p, x.block < W.heap.size) : ∃ q : Int × Int, v = .agg #[.int .i64 q.1, .int .i64 q.2] ∧ (I64 q.1 ∧ I64 q.2) := by
  obtain ⟨v0, v1, y0, y1, n, rfl, _, _, t0, t1⟩ := Go.Joins.open_agg2 Try.underlying23 (by kernel_rfl) (by kernel_rfl) hv h
  obtain ⟨a0, e0, _, w0⟩ := DataW.trod_int Try.underlying3 t0
  obtain ⟨a1, e1, _, w1⟩ := DataW.trod_int Try.underlying3 t1
  simp at e0 e1
  subst e0 e1
  exact ⟨(a0, a1), rfl, bounds_i64 w0, bounds_i64 w1⟩
end Go.Proofs.Ytkdidgkanfjfmaa
