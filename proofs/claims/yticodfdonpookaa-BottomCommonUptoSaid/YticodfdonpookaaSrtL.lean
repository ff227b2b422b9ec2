/- A row sorted in place: the worlds; what compact leaves of a list in the order of rank. No condition. -/
import Derived.Test.YticodfdonpookaaDd
import Derived.Sort.Grow
import Derived.Lib.SlicesCompact
set_option linter.unusedSimpArgs false
set_option linter.unusedVariables false
set_option maxRecDepth 20000
namespace Go.Proofs.Yticodfdonpookaa
open Go.RowKit
def eU (x : BitVec 64) : Value := .int .u64 (U x)
theorem us_map (xs : List (BitVec 64)) : (us xs).map (Value.int .u64) = xs.map eU := by simp [us, eU]
theorem holds_block {w : World} {g : Nat} {cur : Array Value} {e : TypeId} {α : Type} [Inhabited α] (enc : α → Value) {ss : List α} (hb : w.heap[g]? = some (.cells cur e (0, 0))) (ht : cur.toList.take ss.length = ss.map enc) : Sort.Holds enc w g 0 ss.toArray := by
  intro j hj
  have hj' : j < ss.length := by simpa using hj
  refine ⟨?_, by simp [World.frozen?, hb]⟩
  have h1 : (cur.toList.take ss.length)[j]? = (ss.map enc)[j]? := by rw [ht]
  rw [List.getElem?_take_of_lt hj'] at h1
  simp only [World.cell?, hb, Nat.zero_add]
  simp only [Option.isSome_none, Bool.false_eq_true, if_false]
  rw [← Array.getElem?_toList, h1]
  simp [hj']
theorem take_put {α : Type} [Inhabited α] (enc : α → Value) (cur : Array Value) (ts : List α) (h : ts.length ≤ cur.size) : (Sort.putCells enc 0 ts.toArray cur).toList.take ts.length = ts.map enc := by
  apply List.ext_getElem?
  intro j
  by_cases hj : j < ts.length
  · rw [List.getElem?_take_of_lt hj, Array.getElem?_toList]
    simp [Sort.putCells, hj, show j < cur.size by omega]
  · rw [List.getElem?_take_eq_none (by omega), List.getElem?_eq_none (by simp; omega)]
theorem heap_sort {α : Type} [Inhabited α] (enc : α → Value) {w : World} {g n : Nat} {os : Array Obj} {cur : Array Value} {e : TypeId} (d : Array α) (hb : w.heap[g]? = some (.cells cur e (0, 0))) :
    (Sort.grow (Sort.putRow enc (Sort.ahead w n) g 0 d) os).heap[g]? = some (.cells (Sort.putCells enc 0 d cur) e (0, 0)) := by
  have hg : g < w.heap.size := (Array.getElem?_eq_some_iff.1 hb).1
  rw [Sort.heap_grow_old _ _ (by simpa using hg)]
  simp [Sort.putRow, Sort.mapBlock, Sort.ahead, Array.getElem?_modify, hb, Sort.onCells]
theorem grownBy_sort {α : Type} [Inhabited α] (enc : α → Value) {w : World} {g n : Nat} {os : Array Obj} (d : Array α) : w.grownBy (Sort.grow (Sort.putRow enc (Sort.ahead w n) g 0 d) os) (some g) := by
  refine ⟨rfl, rfl, rfl, by simp, fun k hk hne => ?_⟩
  rw [Sort.heap_grow_old _ _ (by simpa using hk)]
  have : g ≠ k := fun e => hne (by rw [e])
  simp [Sort.putRow, Sort.mapBlock, Sort.ahead, Array.getElem?_modify, this]
/-- A row of one's own behind a sort of it, or the like. -/
theorem own_sorted {α : Type} [Inhabited α] (enc : α → Value) {base : Nat} {e : TypeId} {g cap n k : Nat} {os : Array Obj} {cur : Array Value} {w : World} {ts : List α} (hbg : base ≤ g) (hg : w.heap[g]? = some (.cells cur e (0, 0))) (h1 : n ≤ cap) (h2 : cap ≤ maxLen) (h3 : cur.size = cap) (hl : ts.length = n) :
    (Sort.grow (Sort.putRow enc (Sort.ahead w k) g 0 ts.toArray) os).ownsRow base e 1 (.slice (some ⟨g, 0, none⟩) n cap) n (ts.map enc) := by
  refine ⟨by simp [hl], .inr ⟨g, cap, _, rfl, hbg, heap_sort enc _ hg, h1, h2, by simp [Sort.putCells, h3], ?_⟩⟩
  rw [Nat.mul_one, ← hl]
  exact take_put enc cur ts (by omega)
/-- Weakly in the order of rank. -/
def Wk (s : BitVec 64) (ys : List (BitVec 64)) : Prop := ys.Pairwise fun x y => U (rk s x) ≤ U (rk s y)
theorem us_bang (ys : List (BitVec 64)) (k : Nat) (h : k < ys.length) : (us ys).toArray[k]! = U (ys.getD k 0#64) := by
  rw [← us_get]
  simp [List.getD_eq_getElem?_getD, us_len, h, getElem!_pos]
theorem take_sU (l : List (BitVec 64)) (k : Nat) (h : k < l.length) : l.take (k + 1) = l.take k ++ [l.getD k 0#64] := by
  rw [List.take_add_one, List.getElem?_eq_getElem h, List.getD_eq_getElem?_getD, List.getElem?_eq_getElem h]; rfl
theorem Wk.le {s : BitVec 64} {ys : List (BitVec 64)} (h : Wk s ys) {i j : Nat} (hij : i < j) (hj : j < ys.length) : U (rk s (ys.getD i 0#64)) ≤ U (rk s (ys.getD j 0#64)) := by
  have := List.pairwise_iff_getElem.1 h i j (by omega) hj hij
  rw [List.getD_eq_getElem?_getD, List.getElem?_eq_getElem (by omega), List.getD_eq_getElem?_getD, List.getElem?_eq_getElem hj]
  exact this
theorem compact_take {s : BitVec 64} {ys : List (BitVec 64)} (h : Wk s ys) : ∀ m, m ≤ ys.length → Lib.compactUpTo (us ys).toArray m = us (dd s (ys.take m))
  | 0, _ => by simp [Lib.compactUpTo, us, dd]
  | m + 1, hm => by
    have ih := compact_take h m (by omega)
    rw [Lib.compactUpTo_succ, ih, take_sU ys m (by omega)]
    have mem : ∀ x, x ∈ ys.take m → ∃ i, i < m ∧ x = ys.getD i 0#64 := fun x hx => by
      obtain ⟨i, hi, e⟩ := List.getElem_of_mem hx
      rw [List.length_take] at hi
      refine ⟨i, by omega, ?_⟩
      rw [List.getElem_take] at e
      rw [← e, List.getD_eq_getElem?_getD, List.getElem?_eq_getElem (by omega)]; rfl
    by_cases g : m = 0
    · subst g
      have : Lib.keeps (us ys).toArray 0 = true := by simp [Lib.keeps]
      rw [this, if_pos rfl, us_bang ys 0 (by omega)]
      simp [us, dd, ins]
    · obtain ⟨k, rfl⟩ : ∃ k, m = k + 1 := ⟨m - 1, by omega⟩
      by_cases e : ys.getD (k + 1) 0#64 = ys.getD k 0#64
      · have : Lib.keeps (us ys).toArray (k + 1) = false := by
          unfold Lib.keeps
          rw [us_bang ys _ (by omega), show k + 1 - 1 = k by omega, us_bang ys _ (by omega), e]
          simp
        rw [this]
        simp only [Bool.false_eq_true, if_false, List.append_nil]
        refine congrArg us (dd_congr fun x => ?_)
        rw [List.mem_append, List.mem_singleton, e]
        constructor
        · exact .inl
        · rintro (hx | rfl)
          · exact hx
          · rw [take_sU ys k (by omega)]; simp
      · have : Lib.keeps (us ys).toArray (k + 1) = true := by
          unfold Lib.keeps
          rw [us_bang ys _ (by omega), show k + 1 - 1 = k by omega, us_bang ys _ (by omega)]
          exact decide_eq_true (.inr fun h => e (U_inj.1 h))
        rw [this, if_pos rfl, us_bang ys _ (by omega)]
        have hlt : ∀ x ∈ dd s (ys.take (k + 1)), U (rk s x) < U (rk s (ys.getD (k + 1) 0#64)) := fun x hx => by
          obtain ⟨i, hi, rfl⟩ := mem x ((dd_mem s x _).1 hx)
          have h1 : U (rk s (ys.getD i 0#64)) ≤ U (rk s (ys.getD k 0#64)) := by
            rcases Nat.eq_or_lt_of_le (Nat.le_of_lt_succ hi) with q | q
            · rw [q]; exact Int.le_refl _
            · exact h.le q (by omega)
          have h2 := h.le (i := k) (j := k + 1) (by omega) (by omega)
          have h3 : U (rk s (ys.getD k 0#64)) ≠ U (rk s (ys.getD (k + 1) 0#64)) := fun q => e (rk_inj (U_inj.1 q)).symm
          omega
        have hasc : Asc s (dd s (ys.take (k + 1)) ++ [ys.getD (k + 1) 0#64]) := by
          refine List.pairwise_append.2 ⟨dd_asc s _, List.pairwise_singleton _ _, fun x hx y hy => ?_⟩
          rw [List.mem_singleton.1 hy]; exact hlt x hx
        rw [← dd_of (l := ys.take (k + 1) ++ [ys.getD (k + 1) 0#64]) hasc (fun x => by rw [List.mem_append, List.mem_append, dd_mem])]
        simp [us]
theorem compact_dd {s : BitVec 64} {ys : List (BitVec 64)} (h : Wk s ys) : Lib.compactUpTo (us ys).toArray ys.length = us (dd s ys) := by
  have := compact_take h ys.length (Nat.le_refl _)
  rwa [List.take_length] at this
end Go.Proofs.Yticodfdonpookaa
