/- Rows of three numbers each: what an owned row of them reads as; copy, clear on such rows. No condition. -/
import Derived.Test.YthaiopgmncnekaaGreatDoorGen
import Derived.Laws.CopyRow
import Derived.Laws.AppendOwn
set_option linter.unusedSimpArgs false
set_option linter.unusedVariables false
set_option maxRecDepth 20000
namespace Go.Proofs.YthaiopgmncnekaaGreatDoor.Qu
open Go.RowKit
structure Rk where
  N : Int
  Gap : Int
  More : Int
  deriving DecidableEq, Repr
instance : Inhabited Rk := ⟨⟨0, 0, 0⟩⟩
def rkC (r : Rk) : List Value := [.int .i64 r.N, .int .i64 r.Gap, .int .i64 r.More]
def rkL : List Rk → List Value
  | [] => []
  | r :: l => rkC r ++ rkL l
theorem rkL_len : ∀ l : List Rk, (rkL l).length = l.length * 3
  | [] => rfl
  | r :: l => by
    have := rkL_len l
    simp only [rkL, rkC, List.length_append, List.length_cons, List.length_nil]; omega
theorem rkL_app : ∀ l m : List Rk, rkL (l ++ m) = rkL l ++ rkL m
  | [], m => rfl
  | r :: l, m => by simp only [List.cons_append, rkL, rkL_app l m, List.append_assoc]
theorem rkL_take : ∀ (l : List Rk) (k : Nat), (rkL l).take (k * 3) = rkL (l.take k)
  | [], k => by simp [rkL]
  | r :: l, 0 => by simp [rkL]
  | r :: l, k + 1 => by
    have := rkL_take l k
    rw [List.take_succ_cons, rkL, rkL, ← this, show (k + 1) * 3 = (rkC r).length + k * 3 by simp [rkC]; omega, List.take_length_add_append]
theorem rkL_drop : ∀ (l : List Rk) (k : Nat), (rkL l).drop (k * 3) = rkL (l.drop k)
  | [], k => by simp [rkL]
  | r :: l, 0 => by simp
  | r :: l, k + 1 => by
    have := rkL_drop l k
    rw [List.drop_succ_cons, rkL, ← this, show (k + 1) * 3 = (rkC r).length + k * 3 by simp [rkC]; omega, List.drop_length_add_append]
theorem rkL_at (l : List Rk) (i : Nat) (h : i < l.length) :
    (rkL l)[i * 3]? = some (.int .i64 (l.getD i default).N) ∧ (rkL l)[i * 3 + 1]? = some (.int .i64 (l.getD i default).Gap) ∧ (rkL l)[i * 3 + 2]? = some (.int .i64 (l.getD i default).More) := by
  have h1 : ∀ j, (rkL l)[i * 3 + j]? = (rkL (l.drop i))[j]? := fun j => by rw [← rkL_drop, List.getElem?_drop]
  have h2 : l.drop i = l.getD i default :: l.drop (i + 1) := by
    rw [List.drop_eq_getElem_cons h, List.getD_eq_getElem?_getD, List.getElem?_eq_getElem h]; rfl
  have h3 := h1 0
  rw [Nat.add_zero] at h3
  rw [h3, h1 1, h1 2, h2]
  simp [rkL, rkC]
theorem rkL_one : ∀ (l : List Rk), ∀ v ∈ rkL l, v.oneCell' = true
  | [], v, h => by cases h
  | r :: l, v, h => by
    rcases List.mem_append.1 h with h | h
    · simp only [rkC, List.mem_cons, List.not_mem_nil, or_false] at h
      rcases h with rfl | rfl | rfl <;> rfl
    · exact rkL_one l v h
def Own (w : World) (base : Nat) (v : Value) (l : List Rk) : Prop := w.ownsRow base 43 3 v l.length (rkL l)
theorem Own.nil (w : World) (base : Nat) : Own w base (.slice none 0 0) [] := World.ownsRow_nil _ _ _ _
theorem Own.below {w w' : World} {base B : Nat} {v : Value} {l : List Rk} (h : Own w base v l) (hb : Below B w w') (hB : w.heap.size ≤ B) : Own w' base v l := own_below h hb hB
theorem Own.base {w : World} {base base' : Nat} {v : Value} {l : List Rk} (h : Own w base v l) (hb : base' ≤ base) : Own w base' v l := own_base h hb
/-- What a row that is owned is. -/
theorem Own.open {w : World} {base : Nat} {v : Value} {l : List Rk} (h : Own w base v l) :
    ∃ a cap, v = .slice a l.length cap ∧ l.length ≤ cap ∧ cap ≤ 9223372036854775807 ∧ (a = none → cap = 0 ∧ l = []) ∧ (∀ x, a = some x → ∃ g cur, x = ⟨g, 0, none⟩ ∧ base ≤ g ∧ g < w.heap.size ∧ w.heap[g]? = some (.cells cur 43 (0, 0)) ∧ cur.size = cap * 3 ∧ cur.toList.take (l.length * 3) = rkL l) := by
  rcases h.2 with ⟨rfl, h0⟩ | ⟨g, cap, cur, rfl, hb, hg, h1, h2, h3, h4⟩
  · have : l = [] := List.length_eq_zero_iff.1 h0
    subst this
    exact ⟨none, 0, rfl, Nat.le_refl _, by decide, fun _ => ⟨rfl, rfl⟩, fun x hx => by cases hx⟩
  · unfold maxLen at h2
    exact ⟨_, cap, rfl, h1, h2, (fun hx => by cases hx), (fun x hx => by cases hx; exact ⟨g, cur, rfl, hb, (Array.getElem?_eq_some_iff.1 hg).1, hg, h3, h4⟩)⟩
/-- .. and its cells. -/
theorem Own.at {w : World} {base n cap : Nat} {a : Option Addr} {l : List Rk} (h : Own w base (.slice a n cap) l) (hn : 0 < n) :
    ∃ g, a = some ⟨g, 0, none⟩ ∧ base ≤ g ∧ g < w.heap.size ∧ ∀ i, i < n → w.cell? ⟨g, i * 3, none⟩ = some (.int .i64 (l.getD i default).N) ∧ w.cell? ⟨g, i * 3 + 1, none⟩ = some (.int .i64 (l.getD i default).Gap) ∧ w.cell? ⟨g, i * 3 + 2, none⟩ = some (.int .i64 (l.getD i default).More) := by
  rcases h.2 with ⟨he, h0⟩ | ⟨g, cap', cur, he, hb, hg, h1, h2, h3, h4⟩
  · injection he with _ h5; omega
  · injection he with h5 h6 h7
    subst h5; subst h6
    refine ⟨g, rfl, hb, (Array.getElem?_eq_some_iff.1 hg).1, fun i hi => ?_⟩
    obtain ⟨x, y, z⟩ := rkL_at l i hi
    have hc : ∀ j u, (rkL l)[j]? = some u → w.cell? ⟨g, j, none⟩ = some u := fun j u hj => by
      rw [cell_of_row w g j cur 43 (0, 0) hg]
      rw [← h4, List.getElem?_take] at hj
      split at hj
      · simpa using hj
      · cases hj
    exact ⟨hc _ _ x, hc _ _ y, hc _ _ z⟩
theorem Own.frozen {w : World} {base g n cap : Nat} {l : List Rk} (h : Own w base (.slice (some ⟨g, 0, none⟩) n cap) l) (j : Nat) : w.frozen? ⟨g, j, none⟩ = false := by
  have hn : l.length = n := by
    rcases h.2 with ⟨he, h0⟩ | ⟨g, cap', cur, he, _⟩
    · cases he
    · injection he with _ h6; exact h6.symm
  unfold Own at h
  rw [hn] at h
  exact World.ownsRow.frozenAt h j
/-- copy, into a row, of elements of k cells. -/
theorem run_copy_rowK {P : Program} (w : World) (k : Nat) (dT sT ty elem : TypeId) (g o dLen dCap : Nat) (a : Addr) (sLen sCap : Nat) (cur : Array Value) (t : TypeId) (cs : List Value)
    (hu : P.underlying dT = some (.slice elem)) (hs : (P.info? elem).map (·.size) = some k)
    (hg : w.heap[g]? = some (.cells cur t (0, 0))) (hn : cs.length = Nat.min sLen dLen * k)
    (hsrc : ∀ j v, cs[j]? = some v → w.cell? (a.add j) = some v) (hfit : o + cs.length ≤ cur.size) (h1 : ∀ v ∈ cs, v.oneCell' = true) :
    (Builtin.copy_ #[dT, sT] ty #[.slice (some ⟨g, o, none⟩) dLen dCap, .slice (some a) sLen sCap]).run P w =
      .ok (goInt (Nat.min sLen dLen)) (w.setRow g (cur.toList.take o ++ cs ++ cur.toList.drop (o + cs.length)).toArray) := by
  have hst := run_storeCells_at P g o t cs 0 cur w hg (by simpa using hfit) h1
  cases hq : P.info? elem with
  | none => simp [hq] at hs
  | some i =>
    have hi : i.size = k := by simpa [hq] using hs
    have hf := run_firstCells_some (P := P) w k (Nat.min sLen dLen) a sLen sCap cs hn hsrc
    simp [Builtin.copy_, run_underlying hu, Builtin.lenOf, sizeOf, typeInfo, hq, hi, hf, hst]
end Go.Proofs.YthaiopgmncnekaaGreatDoor.Qu
