/- A map from ints to ints that counts, of the call's own. No condition. -/
import Derived.Test.YtkebahdapkjacaaAl
import Derived.Maps.OwnSet
import Derived.Maps.OwnOps
import Derived.Maps.RangeWalk
import Derived.WalkArith
set_option linter.unusedSimpArgs false
set_option linter.unusedVariables false
namespace Go.Proofs.Ytkebahdapkjacaa
open Go.RowKit Go.Maps
theorem key3 : Keyed Try.prog 3 := int_keyed Try.underlying3
theorem zero3 (w : World) : (zeroValue 3).run Try.prog w = .ok (.int .i64 0) w := by kernel_rfl
/-- A table of counts, as a list. -/
def lk : List (Nat × Nat) → Int → Nat
  | [], _ => 0
  | p :: r, x => if (p.1 : Int) = x then p.2 else lk r x
def hk (l : List (Nat × Nat)) (x : Int) : Bool := l.any fun p => decide ((p.1 : Int) = x)
def bump : List (Nat × Nat) → Nat → Nat → List (Nat × Nat)
  | [], x, d => [(x, d)]
  | p :: r, x, d => if p.1 = x then (p.1, p.2 + d) :: r else p :: bump r x d
theorem lk_bump (x d : Nat) (y : Int) : ∀ l, lk (bump l x d) y = if y = (x : Int) then lk l x + d else lk l y
  | [] => by
    simp only [bump, lk]
    by_cases e : y = (x : Int)
    · rw [if_pos e.symm, if_pos e]; omega
    · rw [if_neg (fun h => e h.symm), if_neg e]
  | p :: r => by
    simp only [bump]
    by_cases hp : p.1 = x
    · rw [if_pos hp]
      simp only [lk]
      by_cases e : y = (x : Int)
      · rw [if_pos (by rw [hp, e]), if_pos e, if_pos (by rw [hp])]
      · rw [if_neg (by rw [hp]; exact fun h => e h.symm), if_neg e, if_neg (by rw [hp]; exact fun h => e h.symm)]
    · rw [if_neg hp]
      simp only [lk]
      rw [lk_bump x d y r]
      by_cases e : y = (x : Int)
      · rw [if_pos e, if_pos e, if_neg (by rw [e]; omega), if_neg (by omega)]
      · rw [if_neg e, if_neg e]
theorem hk_bump (x d : Nat) (y : Int) : ∀ l, hk (bump l x d) y = (hk l y || decide ((x : Int) = y))
  | [] => by simp [bump, hk]
  | p :: r => by
    have ih := hk_bump x d y r
    unfold hk at ih ⊢
    simp only [bump]
    by_cases hp : p.1 = x
    · rw [if_pos hp, List.any_cons, List.any_cons, hp]
      cases decide ((x : Int) = y) <;> simp
    · rw [if_neg hp, List.any_cons, List.any_cons, ih, Bool.or_assoc]
theorem len_bump (x d : Nat) : ∀ l, (bump l x d).length = if hk l x = true then l.length else l.length + 1
  | [] => by simp [bump, hk]
  | p :: r => by
    have ih := len_bump x d r
    simp only [bump]
    by_cases hp : p.1 = x
    · rw [if_pos hp, if_pos (by simp [hk, hp])]; rfl
    · rw [if_neg hp, List.length_cons, ih]
      have : hk (p :: r) x = hk r x := by
        unfold hk
        rw [List.any_cons, decide_eq_false (by omega), Bool.false_or]
      rw [this]
      split <;> simp
/-- The map in block b counts as the list says. -/
def MC (w : World) (b n : Nat) (L : List (Nat × Nat)) : Prop :=
  ∃ D : DataW Unit, w.ownsMap Try.prog 3 (plainElem Try.prog 3) b n D ∧ Tidy D ∧ (∀ x : Int, D.atKey (.int .i64 x) (.lit (.int .i64 0)) = .lit (.int .i64 (lk L x))) ∧ (∀ x : Int, has D (.int .i64 x) = hk L x) ∧ size D = L.length
theorem MC.made (w : World) : MC (w.alloc (.map #[] 0)) w.heap.size 0 [] :=
  ⟨.map [], World.ownsMap_made _ _ _ _, tidy_empty, fun x => by simp [DataW.atKey, lk], fun x => by simp [has_eq, hk], rfl⟩
theorem MC.mono {w : World} {b n n' : Nat} {L} (h : MC w b n L) (hn : n ≤ n') : MC w b n' L := by
  obtain ⟨D, h1, h2⟩ := h; exact ⟨D, h1.mono hn, h2⟩
theorem MC.lt {w : World} {b n : Nat} {L} (h : MC w b n L) : b < w.heap.size := by
  obtain ⟨D, h1, _⟩ := h; exact h1.lt
theorem MC.block {w w' : World} {b n : Nat} {L} (h : MC w b n L) (hb : w'.heap[b]? = w.heap[b]?) : MC w' b n L := by
  obtain ⟨D, ⟨es, clock, h1, h2⟩, hS⟩ := h
  exact ⟨D, ⟨es, clock, hb.trans h1, h2⟩, hS⟩
theorem MC.kept {w w' : World} {b n B : Nat} {L} (h : MC w b n L) (hb : Below B w w') (hB : b < B) : MC w' b n L := h.block (hb.block b hB)
theorem MC.grown {w w' : World} {b n : Nat} {L} {row : Option Nat} (h : MC w b n L) (hg : w.grownBy w' row) (hne : some b ≠ row) : MC w' b n L := h.block (hg.block b h.lt hne)
theorem MC.put {w' : World} {b n x d : Nat} {L} {D : DataW Unit} (hT : Tidy D) (hS : ∀ x : Int, D.atKey (.int .i64 x) (.lit (.int .i64 0)) = .lit (.int .i64 (lk L x))) (hH : ∀ x : Int, has D (.int .i64 x) = hk L x) (hZ : size D = L.length)
    (h : w'.ownsMap Try.prog 3 (plainElem Try.prog 3) b n (D.put (.int .i64 x) (.lit (.int .i64 ((lk L x + d : Nat) : Int))))) : MC w' b n (bump L x d) := by
  refine ⟨_, h, hT.put (show WideAt.IsKeyLit (.int .i64 x) from trivial) _, fun z => ?_, fun z => ?_, ?_⟩
  · rw [lk_bump]
    by_cases e : z = (x : Int)
    · rw [if_pos e, e]; exact Maps.atKey_put_same hT.isMap (show WideAt.IsKeyLit (.int .i64 x) from trivial) _ _
    · rw [if_neg e, Maps.atKey_put_other (by intro h; cases h; exact e rfl)]; exact hS z
  · rw [hk_bump]
    by_cases e : z = (x : Int)
    · rw [e, has_put_same hT.isMap (show WideAt.IsKeyLit (.int .i64 x) from trivial), decide_eq_true rfl, Bool.or_true]
    · rw [has_put_other (by intro h; cases h; exact e rfl), hH, decide_eq_false (fun h => e h.symm), Bool.or_false]
  · rw [size_put hT, hH, len_bump, hZ]
/-- Which set a list of small numbers is. -/
def setN : List Nat → Nat → Nat
  | [], s => s
  | x :: r, s => setN r (s ||| 2 ^ x)
/-- Digits by bases. -/
def mixF : Nat → List Nat → List Nat
  | _, [] => []
  | x, b :: r => x % b :: mixF (x / b) r
end Go.Proofs.Ytkebahdapkjacaa
