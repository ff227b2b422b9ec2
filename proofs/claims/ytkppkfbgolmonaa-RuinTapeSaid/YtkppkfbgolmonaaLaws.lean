/- ruin.Well, as one function; the plain laws. No condition. -/
import Derived.Test.YtkppkfbgolmonaaAl
set_option linter.unusedSimpArgs false
set_option linter.unusedVariables false
namespace Go.Proofs.Ytkppkfbgolmonaa
open Go.RowKit
instance (a b c : Int) : Decidable (Ok3 a b c) := by unfold Ok3; exact inferInstance
def wellZ (win lose top has : Int) : (Nat × Nat) × Int :=
  if Ok3 win lose top then (if 0 ≤ has ∧ has ≤ top then (wellN win.toNat lose.toNat top.toNat has.toNat, 0) else ((0, 0), 3)) else ((0, 0), 2)
theorem well_any (win lose top has : Int) (w : World) : Calls Try.prog 9 #[.int .i64 win, .int .i64 lose, .int .i64 top, .int .i64 has] w fun e w' =>
    e = .returned (.tuple #[frv (wellZ win lose top has).1, .int .i64 (wellZ win lose top has).2]) ∧ Below w.heap.size w w' := by
  unfold wellZ
  by_cases h : Ok3 win lose top
  · rw [if_pos h]
    by_cases hh : 0 ≤ has ∧ has ≤ top
    · rw [if_pos hh]
      have h1 := h
      unfold Ok3 at h1
      have := well_ok win.toNat lose.toNat top.toNat has.toNat (by rw [show ((win.toNat : Nat) : Int) = win by omega, show ((lose.toNat : Nat) : Int) = lose by omega, show ((top.toNat : Nat) : Int) = top by omega]; exact h) (by omega) w
      rwa [show ((win.toNat : Nat) : Int) = win by omega, show ((lose.toNat : Nat) : Int) = lose by omega, show ((top.toNat : Nat) : Int) = top by omega, show ((has.toNat : Nat) : Int) = has by omega] at this
    · rw [if_neg hh]
      exact well_none win lose top has h (by omega) w
  · rw [if_neg h]
    exact well_bad win lose top has h w
def all4 (T : Nat) (P : Nat → Nat → Nat → Nat → Bool) : Bool :=
  (List.range 9).all fun win => (List.range 9).all fun lose => (List.range T).all fun top => (List.range (top + 2)).all fun has => P (win + 1) (lose + 1) (top + 1) has
theorem all4_out {T : Nat} {P : Nat → Nat → Nat → Nat → Bool} (h : all4 T P = true) (win lose top has : Nat) (h1 : 1 ≤ win) (h2 : win ≤ 9) (h3 : 1 ≤ lose) (h4 : lose ≤ 9) (h5 : 1 ≤ top) (h6 : top ≤ T) (h7 : has ≤ top) : P win lose top has = true := by
  unfold all4 at h
  have a := List.all_eq_true.1 h (win - 1) (List.mem_range.2 (by omega))
  have b := List.all_eq_true.1 a (lose - 1) (List.mem_range.2 (by omega))
  have c := List.all_eq_true.1 b (top - 1) (List.mem_range.2 (by omega))
  have d := List.all_eq_true.1 c has (List.mem_range.2 (by omega))
  rwa [show win - 1 + 1 = win by omega, show lose - 1 + 1 = lose by omega, show top - 1 + 1 = top by omega] at d
def otherB (win lose top has : Nat) : Bool :=
  let x := wellN win lose top has
  let y := wellN lose win top (top - has)
  decide (y.2 = x.2) && decide (x.1 + y.1 = x.2) && decide (x.2 ≤ 1000000000000000000)
theorem other_all : all4 16 otherB = true := by decide +kernel
theorem other_law (win lose top has : Nat) (h1 : 1 ≤ win) (h2 : win ≤ 9) (h3 : 1 ≤ lose) (h4 : lose ≤ 9) (h5 : 1 ≤ top) (h6 : top ≤ 16) (h7 : has ≤ top) :
    (wellN lose win top (top - has)).2 = (wellN win lose top has).2 ∧ (wellN win lose top has).1 + (wellN lose win top (top - has)).1 = (wellN win lose top has).2 ∧ (wellN win lose top has).2 ≤ 1000000000000000000 := by
  have h := all4_out other_all win lose top has h1 h2 h3 h4 h5 h6 h7
  simp only [otherB, Bool.and_eq_true, decide_eq_true_eq] at h
  exact ⟨h.1.1, h.1.2, h.2⟩
/-- The harmonic law, as the code reckons it; and that all stays small. -/
def harmB (win lose top has : Nat) : Bool :=
  if has = 0 ∨ has = top then true else
  let x := wellN win lose top has
  let y := wellN win lose top (has + 1)
  let z := wellN win lose top (has - 1)
  let d := x.2 / Nat.gcd x.2 y.2 * y.2
  let e := d / Nat.gcd d z.2 * z.2
  decide (0 < Nat.gcd x.2 y.2) && decide (0 < Nat.gcd d z.2) && decide (0 < x.2) && decide (0 < y.2) && decide (0 < z.2) &&
  decide (d ≤ 1000000000000) && decide (e ≤ 1000000000000) && decide (x.1 ≤ 1000000000000) && decide (x.2 ≤ 1000000000000) && decide (y.2 ≤ 1000000000000) && decide (z.2 ≤ 1000000000000) &&
  decide ((win + lose) * x.1 ≤ 1000000000000) && decide (win * y.1 ≤ 1000000000000) && decide (lose * z.1 ≤ 1000000000000) &&
  decide ((win + lose) * x.1 * (e / x.2) ≤ 1000000000000000000) && decide (win * y.1 * (e / y.2) + lose * z.1 * (e / z.2) ≤ 1000000000000000000) &&
  decide ((win + lose) * x.1 * (e / x.2) = win * y.1 * (e / y.2) + lose * z.1 * (e / z.2))
theorem harm_all : all4 8 harmB = true := by decide +kernel
def lessB (x y : Nat × Nat) : Bool := decide (x.1 * y.2 ≤ y.1 * x.2) && decide (x.1 * y.2 ≤ 1000000000000000000) && decide (y.1 * x.2 ≤ 1000000000000000000)
def moreB (win lose top has : Nat) : Bool :=
  let x := wellN win lose top has
  (decide (has = top) || lessB x (wellN win lose top (has + 1))) && (decide (win = 9) || lessB x (wellN (win + 1) lose top has)) && lessB (wellN win lose (top + 1) has) x
theorem more_all : all4 7 moreB = true := by decide +kernel
theorem edge_all : all4 16 (fun win lose top has => if has = 0 then decide (wellN win lose top has = (0, 1)) else if has = top then decide (wellN win lose top has = (1, 1)) else true) = true := by decide +kernel
end Go.Proofs.Ytkppkfbgolmonaa
