/- Neighbours become one: plain. No condition. -/
import Derived.Test.YthaiopgmncnekaaGreatDoorQuDel
import Derived.Test.YthaiopgmncnekaaGreatDoorQuCount
set_option linter.unusedSimpArgs false
set_option linter.unusedVariables false
set_option maxRecDepth 20000
namespace Go.Proofs.YthaiopgmncnekaaGreatDoor.Qu
open Go.RowKit
theorem rkL_set : ∀ (l : List Rk) (i : Nat) (x : Int), i < l.length → rkL (l.set i { l.getD i default with Gap := x }) = (rkL l).set (i * 3 + 1) (.int .i64 x)
  | [], i, x, h => by simp at h
  | r :: l, 0, x, _ => by simp [rkL, rkC]
  | r :: l, i + 1, x, h => by
    have ih := rkL_set l i x (by simpa using h)
    have e : (r :: l).getD (i + 1) default = l.getD i default := by simp
    rw [e, List.set_cons_succ, rkL, ih, rkL, show (i + 1) * 3 + 1 = (i * 3 + 1) + 1 + 1 + 1 by omega]
    simp only [rkC, List.cons_append, List.nil_append, List.set_cons_succ]
theorem Own.setGap {w : World} {base g n cap : Nat} {l : List Rk} (h : Own w base (.slice (some ⟨g, 0, none⟩) n cap) l) (hn : l.length = n) (i : Nat) (hi : i < n) (x : Int) :
    Own (w.setCell ⟨g, i * 3 + 1, none⟩ (.int .i64 x)) base (.slice (some ⟨g, 0, none⟩) n cap) (l.set i { l.getD i default with Gap := x }) := by
  unfold Own at h ⊢
  rw [rkL_set l i x (by omega), List.length_set]
  rw [hn] at h ⊢
  exact (h.stored (i * 3 + 1) (.int .i64 x)).1
/-- The one at k is laid into the next one. -/
def mrg (l : List Rk) (k : Nat) : List Rk := delL (l.set (k + 1) { l.getD (k + 1) default with Gap := (l.getD (k + 1) default).Gap + (l.getD k default).Gap }) k
def big (l : List Rk) (k : Nat) : Int := (l.getD k default).Gap + (l.getD (k + 1) default).Gap + (l.getD (k + 1) default).More
def sqS (most : Int) (l : List Rk) (k : Nat) : List Rk := if big l k ≤ most then mrg l k else l
def sqF (most : Int) : Nat → List Rk → List Rk
  | 0, l => l
  | k + 1, l => sqF most k (sqS most l (k + 1))
def sqz (p : Int) (l : List Rk) : List Rk := sqF (2 * cnt l / p) (l.length - 2) l
theorem split2 (l : List Rk) (k : Nat) (h : k + 1 < l.length) : l = l.take k ++ l.getD k default :: l.getD (k + 1) default :: l.drop (k + 2) := by
  have e : ∀ j, j < l.length → l.drop j = l.getD j default :: l.drop (j + 1) := fun j hj => by
    rw [List.drop_eq_getElem_cons hj, List.getD_eq_getElem?_getD, List.getElem?_eq_getElem hj]; rfl
  rw [← e (k + 1) h, ← e k (by omega), List.take_append_drop]
theorem mrg_eq (l : List Rk) (k : Nat) (h : k + 1 < l.length) : mrg l k = l.take k ++ ⟨(l.getD (k + 1) default).N, (l.getD (k + 1) default).Gap + (l.getD k default).Gap, (l.getD (k + 1) default).More⟩ :: l.drop (k + 2) := by
  unfold mrg delL
  rw [List.take_set_of_le (by omega)]
  congr 1
  rw [List.drop_eq_getElem_cons (by simpa using h)]
  congr 1
  · simp
  · rw [List.drop_set_of_lt (by omega)]
theorem mrg_len (l : List Rk) (k : Nat) (h : k + 1 < l.length) : (mrg l k).length = l.length - 1 := by
  rw [mrg_eq l k h]
  simp only [List.length_append, List.length_take, List.length_cons, List.length_drop]; omega
theorem mrg_cnt (l : List Rk) (k : Nat) (h : k + 1 < l.length) : cnt (mrg l k) = cnt l := by
  rw [mrg_eq l k h]
  conv => rhs; rw [split2 l k h]
  rw [cnt_app, cnt_app]
  simp only [cnt]
  omega
/-- Something that holds of all, and of what is made of two. -/
theorem mrg_all {P : Rk → Prop} (l : List Rk) (k : Nat) (h : k + 1 < l.length) (ha : ∀ r ∈ l, P r) (h2 : P ⟨(l.getD (k + 1) default).N, (l.getD (k + 1) default).Gap + (l.getD k default).Gap, (l.getD (k + 1) default).More⟩) : ∀ r ∈ mrg l k, P r := by
  rw [mrg_eq l k h]
  intro r hr
  rcases List.mem_append.1 hr with hr | hr
  · exact ha r (List.mem_of_mem_take hr)
  · rcases List.mem_cons.1 hr with rfl | hr
    · exact h2
    · exact ha r (List.mem_of_mem_drop hr)
end Go.Proofs.YthaiopgmncnekaaGreatDoor.Qu
