/- Rows of bools of the call's own: which places have been met. No condition. -/
import Derived.Test.YthaiopgmncnekaaDoorGen
set_option linter.unusedSimpArgs false
set_option linter.unusedVariables false
set_option maxRecDepth 20000
namespace Go.Proofs.YthaiopgmncnekaaDoor.Cyc
open Go.RowKit
theorem ownb_set {w : World} {base g n cap : Nat} {e : TypeId} {c : List Bool} (h : w.ownsRow base e 1 (.slice (some ⟨g, 0, none⟩) n cap) n (c.map Value.bool)) (j : Nat) (x : Bool) :
    (w.setCell ⟨g, j, none⟩ (.bool x)).ownsRow base e 1 (.slice (some ⟨g, 0, none⟩) n cap) n ((c.set j x).map Value.bool) := by
  have := (h.stored j (.bool x)).1
  rwa [← List.map_set] at this
theorem ownb_get {w : World} {base g n cap : Nat} {e : TypeId} {c : List Bool} (h : w.ownsRow base e 1 (.slice (some ⟨g, 0, none⟩) n cap) n (c.map Value.bool)) (j : Nat) (hj : j < n) :
    w.cell? ⟨g, j, none⟩ = some (.bool (c.getD j false)) := by
  have hl : c.length = n := by have := h.1; simpa using this
  rw [h.cellAt j (by omega), List.getElem?_map, List.getD_eq_getElem?_getD, List.getElem?_eq_getElem (by omega)]
  simp
theorem falses_eq (n : Nat) : (madeCells #[Value.bool false] n).toList = (List.replicate n false).map Value.bool := by
  rw [List.map_replicate]
  exact toList_madeCells_one _ _
def Had (f : Nat → Nat) (c : List Bool) (n r : Nat) : Prop := c.length = n ∧ ∀ j, j < n → (c.getD j false = true ↔ ∃ i, i < r ∧ f i = j)
theorem Had.zero (f : Nat → Nat) (n : Nat) : Had f (List.replicate n false) n 0 := by
  refine ⟨by simp, fun j hj => ?_⟩
  rw [List.getD_eq_getElem?_getD, List.getElem?_replicate, if_pos hj]
  simp
theorem Had.new {f : Nat → Nat} {c : List Bool} {n r : Nat} (h : Had f c n r) (hr : f r < n) (hi : ∀ i, i < r → f i ≠ f r) : c.getD (f r) false = false := by
  rw [← Bool.not_eq_true]
  intro hc
  obtain ⟨i, h1, h2⟩ := (h.2 _ hr).1 hc
  exact hi i h1 h2
theorem Had.step {f : Nat → Nat} {c : List Bool} {n r : Nat} (h : Had f c n r) (hr : f r < n) : Had f (c.set (f r) true) n (r + 1) := by
  refine ⟨by simpa using h.1, fun j hj => ?_⟩
  by_cases e : f r = j
  · subst e
    have : (c.set (f r) true).getD (f r) false = true := by
      rw [List.getD_eq_getElem?_getD, List.getElem?_set]; simp [h.1, hj]
    rw [this]
    simp only [true_iff]
    exact ⟨r, by omega, rfl⟩
  · have : (c.set (f r) true).getD j false = c.getD j false := by
      rw [List.getD_eq_getElem?_getD, List.getElem?_set, if_neg e, List.getD_eq_getElem?_getD]
    rw [this, h.2 j hj]
    constructor
    · rintro ⟨i, h1, h2⟩; exact ⟨i, by omega, h2⟩
    · rintro ⟨i, h1, h2⟩
      rcases Nat.lt_or_ge i r with h3 | h3
      · exact ⟨i, h3, h2⟩
      · have : i = r := by omega
        subst this; exact absurd h2 e
end Go.Proofs.YthaiopgmncnekaaDoor.Cyc
