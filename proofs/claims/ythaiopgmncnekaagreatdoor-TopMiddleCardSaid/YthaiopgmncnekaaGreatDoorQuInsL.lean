/- A row into which something is laid: plain; and what the world is then. No condition. -/
import Derived.Test.YthaiopgmncnekaaGreatDoorQuClone
set_option linter.unusedSimpArgs false
set_option linter.unusedVariables false
set_option maxRecDepth 20000
namespace Go.Proofs.YthaiopgmncnekaaGreatDoor.Qu
open Go.RowKit
def splice (c : List Value) (o : Nat) (m : List Value) : List Value := c.take o ++ m ++ c.drop (o + m.length)
theorem splice_len (c : List Value) (o : Nat) (m : List Value) (h : o + m.length ≤ c.length) : (splice c o m).length = c.length := by
  unfold splice; simp only [List.length_append, List.length_take, List.length_drop]; omega
theorem splice_ab {c A B C : List Value} {a : Nat} (h : c.take a = A) (ha : A.length = a) : (splice (splice c a B) (a + B.length) C).take (a + B.length + C.length) = A ++ B ++ C := by
  have e1 : (splice c a B).take (a + B.length) = A ++ B := by
    unfold splice; rw [h]; exact List.take_left' (by simp [ha])
  generalize splice c a B = X at *
  unfold splice
  rw [e1]
  exact List.take_left' (by simp [ha]; omega)
theorem splice_ba {c A B C : List Value} {a : Nat} (h : c.take a = A) (ha : A.length = a) (hb : a + B.length ≤ c.length) : (splice (splice c (a + B.length) C) a B).take (a + B.length + C.length) = A ++ B ++ C := by
  have e0 : (c.take (a + B.length)).length = a + B.length := by rw [List.length_take]; omega
  have e1 : (splice c (a + B.length) C).take a = A := by
    unfold splice
    rw [List.append_assoc, List.take_append_of_le_length (by omega), List.take_take, Nat.min_eq_left (by omega), h]
  have e2 : (splice c (a + B.length) C).drop (a + B.length) = C ++ c.drop (a + B.length + C.length) := by
    unfold splice
    rw [List.append_assoc]; exact List.drop_left' e0
  generalize splice c (a + B.length) C = X at *
  unfold splice
  rw [e1, e2, ← List.append_assoc]
  exact List.take_left' (by simp [ha]; omega)
def insL (l : List Rk) (i : Nat) (r : Rk) : List Rk := l.take i ++ r :: l.drop i
theorem insL_len (l : List Rk) (i : Nat) (r : Rk) (h : i ≤ l.length) : (insL l i r).length = l.length + 1 := by
  unfold insL; simp only [List.length_append, List.length_take, List.length_cons, List.length_drop]; omega
theorem insL_rk (l : List Rk) (i : Nat) (r : Rk) : rkL (insL l i r) = rkL (l.take i) ++ rkC r ++ rkL (l.drop i) := by
  unfold insL; rw [rkL_app]; simp only [rkL, List.append_assoc]
theorem rkC_len (r : Rk) : (rkC r).length = 3 := rfl
/-- An owned row out of its block. -/
theorem Own.mk {w : World} {base g n cap : Nat} {cur : Array Value} {l : List Rk} (hn : l.length = n) (hb : base ≤ g) (hg : w.heap[g]? = some (.cells cur 43 (0, 0))) (h1 : n ≤ cap) (h2 : cap ≤ 9223372036854775807) (h3 : cur.size = cap * 3) (h4 : cur.toList.take (n * 3) = rkL l) :
    Own w base (.slice (some ⟨g, 0, none⟩) n cap) l := by
  subst hn
  exact ⟨rkL_len l, .inr ⟨g, cap, cur, rfl, hb, hg, h1, by unfold maxLen; omega, h3, h4⟩⟩
theorem setRow_grown {w w' : World} {g : Nat} {r : Option Nat} {cs : Array Value} (h : w.grownBy w' r) (hg : r = some g ∨ w.heap.size ≤ g) : w.grownBy (w'.setRow g cs) r := by
  refine ⟨h.os, h.tape, h.output, by have := h.size; simpa [World.setRow] using this, fun k hk hne => ?_⟩
  rw [setRow_other w' g k cs (by rcases hg with rfl | hg; exact fun e => hne (by rw [e]); omega)]
  exact h.block k hk hne
end Go.Proofs.YthaiopgmncnekaaGreatDoor.Qu
