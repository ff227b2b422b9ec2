/- A map from ints to ints that counts, of the call's own: what it answers as a function. No condition. -/
import Derived.Test.YthaiopgmncnekaaDoorGen
import Derived.Maps.OwnSet
import Derived.Maps.OwnOps
import Derived.WalkArith
set_option linter.unusedSimpArgs false
set_option linter.unusedVariables false
set_option maxRecDepth 20000
namespace Go.Proofs.YthaiopgmncnekaaDoor.Stay
open Go.RowKit Go.Maps
theorem key3 : Keyed Tryd.prog 3 := int_keyed Tryd.underlying3
theorem zero3 (w : World) : (zeroValue 3).run Tryd.prog w = .ok (.int .i64 0) w := by kernel_rfl
/-- The map in block b answers f. -/
def MF (w : World) (b n : Nat) (f : Nat → Nat) : Prop :=
  ∃ D : DataW Unit, w.ownsMap Tryd.prog 3 (plainElem Tryd.prog 3) b n D ∧ Tidy D ∧ ∀ x : Nat, D.atKey (.int .i64 x) (.lit (.int .i64 0)) = .lit (.int .i64 (f x : Nat))
theorem MF.made (w : World) : MF (w.alloc (.map #[] 0)) w.heap.size 0 (fun _ => 0) :=
  ⟨.map [], World.ownsMap_made _ _ _ _, tidy_empty, fun x => by simp [DataW.atKey]⟩
theorem MF.mono {w : World} {b n n' : Nat} {f} (h : MF w b n f) (hn : n ≤ n') : MF w b n' f := by
  obtain ⟨D, h1, h2⟩ := h; exact ⟨D, h1.mono hn, h2⟩
theorem MF.lt {w : World} {b n : Nat} {f} (h : MF w b n f) : b < w.heap.size := by
  obtain ⟨D, h1, _⟩ := h; exact h1.lt
theorem MF.block {w w' : World} {b n : Nat} {f} (h : MF w b n f) (hb : w'.heap[b]? = w.heap[b]?) : MF w' b n f := by
  obtain ⟨D, ⟨es, clock, h1, h2⟩, hS⟩ := h
  exact ⟨D, ⟨es, clock, hb.trans h1, h2⟩, hS⟩
theorem MF.kept {w w' : World} {b n B : Nat} {f} (h : MF w b n f) (hb : Below B w w') (hB : b < B) : MF w' b n f := h.block (hb.block b hB)
theorem MF.congr {w : World} {b n : Nat} {f g : Nat → Nat} (h : MF w b n f) (e : ∀ x, f x = g x) : MF w b n g := by
  obtain ⟨D, h1, h2, h3⟩ := h
  exact ⟨D, h1, h2, fun x => by rw [h3, e]⟩
theorem MF.put {w' : World} {b n x c : Nat} {f : Nat → Nat} {D : DataW Unit} (hT : Tidy D) (hS : ∀ x : Nat, D.atKey (.int .i64 x) (.lit (.int .i64 0)) = .lit (.int .i64 (f x : Nat)))
    (h : w'.ownsMap Tryd.prog 3 (plainElem Tryd.prog 3) b n (D.put (.int .i64 x) (.lit (.int .i64 ((c : Nat) : Int))))) : MF w' b n (fun y => if y = x then c else f y) := by
  refine ⟨_, h, hT.put (show WideAt.IsKeyLit (.int .i64 x) from trivial) _, fun z => ?_⟩
  by_cases e : z = x
  · subst e; simp only [if_true]; exact Maps.atKey_put_same hT.isMap (show WideAt.IsKeyLit (.int .i64 z) from trivial) _ _
  · simp only [e, if_false]; rw [Maps.atKey_put_other (by intro h; cases h; exact e (by omega))]; exact hS z
theorem key_nat (x : Nat) (hx : x < 1000000) : keyOf Tryd.prog 3 (.int .i64 (x : Int)) = some (.int .i64 (x : Int)) := keyOf_int_mk Tryd.underlying3 (Go.WalkArith.wf_i64 (by omega))
theorem MF.look {w : World} {b n : Nat} {f : Nat → Nat} (h : MF w b n f) {x : Nat} (hx : x < 1000000) : (Instr.lookup 41 (.map (some b)) (.int .i64 (x : Int)) false).run Tryd.prog w = .ok (.int .i64 (f x : Nat)) w := by
  obtain ⟨D, hD, hT, hS⟩ := h
  obtain ⟨c, hr, hat, -⟩ := hD.lookup_int key3 Tryd.underlying41 Tryd.underlying3 (zero3 w) (key_nat x hx)
  rw [hS] at hat
  simp only [DataW.lit.injEq, Lit.int.injEq, true_and] at hat
  rw [hr, ← hat]
end Go.Proofs.YthaiopgmncnekaaDoor.Stay
