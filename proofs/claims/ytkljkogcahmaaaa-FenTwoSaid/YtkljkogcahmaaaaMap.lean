/- A map from ints to bools of the call's own. No condition. -/
import Derived.Test.YtkljkogcahmaaaaGen
import Derived.Maps.OwnSet
import Derived.Maps.Own
set_option linter.unusedSimpArgs false
set_option linter.unusedVariables false
namespace Go.Proofs.Ytkljkogcahmaaaa
open Go.RowKit Go.Maps
theorem key3 : Keyed Try.prog 3 := int_keyed Try.underlying3
theorem zero4 (w : World) : (zeroValue 4).run Try.prog w = .ok (.bool false) w := by kernel_rfl
def MB (w : World) (b n : Nat) (S : Int → Bool) : Prop :=
  ∃ D : DataW Unit, w.ownsMap Try.prog 3 (plainElem Try.prog 4) b n D ∧ ∀ x, D.atKey (.int .i64 x) (.lit (.bool false)) = .lit (.bool (S x))
theorem MB.made (w : World) : MB (w.alloc (.map #[] 0)) w.heap.size 0 (fun _ => false) :=
  ⟨.map [], World.ownsMap_made _ _ _ _, fun x => by simp [DataW.atKey]⟩
theorem plainElem_bool_inv {v : Value} {z : DataW Unit × List MemPlace} (h : plainElem Try.prog 4 v = some z) : ∃ x, v = .bool x ∧ z = (.lit (.bool x), []) := by
  unfold plainElem at h
  rw [Try.underlying4] at h
  cases v <;> simp at h
  exact ⟨_, rfl, h.symm⟩
theorem MB.look {w : World} {b n : Nat} {S : Int → Bool} (h : MB w b n S) {x : Int} (hx : (Lit.int .i64 x).wf = true) : (Instr.lookup 32 (.map (some b)) (.int .i64 x) false).run Try.prog w = .ok (.bool (S x)) w := by
  obtain ⟨D, hD, hS⟩ := h
  obtain ⟨v, ps, hr, he⟩ := hD.lookup key3 Try.underlying32 (zero4 w) (zd := .lit (.bool false)) (zp := []) (plainElem_bool Try.underlying4 false) (keyOf_int_mk Try.underlying3 hx)
  rw [hS] at he
  obtain ⟨y, rfl, hz⟩ := plainElem_bool_inv he
  simp only [Prod.mk.injEq, DataW.lit.injEq, Lit.bool.injEq] at hz
  rw [hr, hz.1]
theorem MB.kept {w w' : World} {b n B : Nat} {S : Int → Bool} (h : MB w b n S) (hb : Below B w w') (hB : b < B) : MB w' b n S := by
  obtain ⟨D, hD, hS⟩ := h
  obtain ⟨es, clock, h1, h2⟩ := hD
  exact ⟨D, ⟨es, clock, (hb.block b hB).trans h1, h2⟩, hS⟩
theorem MB.put {w' : World} {b n : Nat} {S : Int → Bool} {x : Int} {y : Bool} {D : DataW Unit} (hI : Maps.IsMap D) (hS : ∀ x, D.atKey (.int .i64 x) (.lit (.bool false)) = .lit (.bool (S x)))
    (h : w'.ownsMap Try.prog 3 (plainElem Try.prog 4) b n (D.put (.int .i64 x) (.lit (.bool y)))) : MB w' b n (fun z => if z = x then y else S z) := by
  refine ⟨_, h, fun z => ?_⟩
  show _ = DataW.lit (Lit.bool (if z = x then y else S z))
  by_cases e : z = x
  · subst e; rw [if_pos rfl]; exact Maps.atKey_put_same hI (show WideAt.IsKeyLit (.int .i64 z) from trivial) _ _
  · rw [if_neg e, Maps.atKey_put_other (by intro h; cases h; exact e rfl)]; exact hS z
end Go.Proofs.Ytkljkogcahmaaaa
