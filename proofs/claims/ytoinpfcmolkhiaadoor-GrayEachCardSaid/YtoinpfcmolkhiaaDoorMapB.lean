/- A map from ints to bools of the call's own: a set of small numbers, as a mask. No condition. -/
import Derived.Test.YtoinpfcmolkhiaaDoorBl
import Derived.Maps.OwnSet
import Derived.Maps.OwnOps
import Derived.Maps.RangeWalk
import Derived.WalkArith
set_option linter.unusedSimpArgs false
set_option linter.unusedVariables false
namespace Go.Proofs.YtoinpfcmolkhiaaDoor
open Go.RowKit Go.Maps
theorem key3 : Keyed Tryd.prog 3 := int_keyed Tryd.underlying3
theorem zero4 (w : World) : (zeroValue 4).run Tryd.prog w = .ok (.bool false) w := by kernel_rfl
theorem plainElem_bool_inv {H : Type} {P : Program} {e : TypeId} (he : P.underlying e = some .bool) {v : Value} {z : DataW H × List MemPlace} (h : plainElem P e v = some z) : ∃ a, v = .bool a ∧ z = (.lit (.bool a), []) := by
  unfold plainElem at h
  rw [he] at h
  cases v <;> simp at h
  subst h
  exact ⟨_, rfl, rfl⟩
theorem lookup_bool {H : Type} {P : Program} {w : World} {k t e : TypeId} {b n : Nat} {D : DataW H} (h : w.ownsMap P k (plainElem P e) b n D) (K : Keyed P k) (ht : P.underlying t = some (.map k e)) (he : P.underlying e = some .bool) (hz : (zeroValue e).run P w = .ok (.bool false) w)
    {key : Value} {kl : Lit} (hkey : keyOf P k key = some kl) : ∃ c, (Instr.lookup t (.map (some b)) key false).run P w = .ok (.bool c) w ∧ D.atKey kl (.lit (.bool false)) = .lit (.bool c) := by
  obtain ⟨v, ps, hrun, hv⟩ := h.lookup K ht hz (plainElem_bool he false) hkey
  obtain ⟨c, rfl, hc⟩ := plainElem_bool_inv he hv
  simp only [Prod.mk.injEq] at hc
  exact ⟨c, hrun, hc.1⟩
/-- The map in block b holds true at just the numbers of the mask. -/
def MS (w : World) (b n m : Nat) : Prop :=
  ∃ D : DataW Unit, w.ownsMap Tryd.prog 3 (plainElem Tryd.prog 4) b n D ∧ Tidy D ∧ ∀ x : Nat, D.atKey (.int .i64 x) (.lit (.bool false)) = .lit (.bool (m.testBit x))
theorem MS.made (w : World) : MS (w.alloc (.map #[] 0)) w.heap.size 0 0 :=
  ⟨.map [], World.ownsMap_made _ _ _ _, tidy_empty, fun x => by simp [DataW.atKey]⟩
theorem MS.lt {w : World} {b n m : Nat} (h : MS w b n m) : b < w.heap.size := by
  obtain ⟨D, h1, _⟩ := h; exact h1.lt
theorem MS.block {w w' : World} {b n m : Nat} (h : MS w b n m) (hb : w'.heap[b]? = w.heap[b]?) : MS w' b n m := by
  obtain ⟨D, ⟨es, clock, h1, h2⟩, hS⟩ := h
  exact ⟨D, ⟨es, clock, hb.trans h1, h2⟩, hS⟩
theorem MS.kept {w w' : World} {b n m B : Nat} (h : MS w b n m) (hb : Below B w w') (hB : b < B) : MS w' b n m := h.block (hb.block b hB)
theorem MS.put {w' : World} {b n m x : Nat} {D : DataW Unit} (hT : Tidy D) (hS : ∀ x : Nat, D.atKey (.int .i64 x) (.lit (.bool false)) = .lit (.bool (m.testBit x)))
    (h : w'.ownsMap Tryd.prog 3 (plainElem Tryd.prog 4) b n (D.put (.int .i64 x) (.lit (.bool true)))) : MS w' b n (m ||| 2 ^ x) := by
  refine ⟨_, h, hT.put (show WideAt.IsKeyLit (.int .i64 x) from trivial) _, fun z => ?_⟩
  rw [Nat.testBit_or, Nat.testBit_two_pow]
  by_cases e : z = x
  · subst e
    rw [Maps.atKey_put_same hT.isMap (show WideAt.IsKeyLit (.int .i64 z) from trivial)]
    simp
  · rw [Maps.atKey_put_other (by intro h; cases h; exact e rfl), hS]
    have : decide (x = z) = false := decide_eq_false (fun h => e h.symm)
    rw [this, Bool.or_false]
end Go.Proofs.YtoinpfcmolkhiaaDoor
