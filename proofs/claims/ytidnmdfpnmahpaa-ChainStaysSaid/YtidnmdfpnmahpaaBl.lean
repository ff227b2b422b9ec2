/- Slices and rows of bools: read, and of the call's own; a slice of bools that came in. No condition. -/
import Derived.Test.YtidnmdfpnmahpaaGen
import Derived.Deep.Grids
set_option linter.unusedSimpArgs false
set_option linter.unusedVariables false
set_option maxRecDepth 20000
namespace Go.Proofs.Ytidnmdfpnmahpaa
open Go.RowKit
theorem ownb_set {w : World} {base g n cap : Nat} {e : TypeId} {c : List Bool} (h : w.ownsRow base e 1 (.slice (some ⟨g, 0, none⟩) n cap) n (c.map Value.bool)) (j : Nat) (x : Bool) :
    (w.setCell ⟨g, j, none⟩ (.bool x)).ownsRow base e 1 (.slice (some ⟨g, 0, none⟩) n cap) n ((c.set j x).map Value.bool) := by
  have := (h.stored j (.bool x)).1
  rwa [← List.map_set] at this
theorem ownb_get {w : World} {base g n cap : Nat} {e : TypeId} {c : List Bool} (h : w.ownsRow base e 1 (.slice (some ⟨g, 0, none⟩) n cap) n (c.map Value.bool)) (j : Nat) (hj : j < n) :
    w.cell? ⟨g, j, none⟩ = some (.bool (c.getD j false)) := by
  have hl : c.length = n := by have := h.1; simpa using this
  rw [h.cellAt j (by omega), List.getElem?_map, List.getD_eq_getElem?_getD, List.getElem?_eq_getElem (by omega)]
  simp
theorem falses_eq (n : Nat) : (madeCells #[Value.bool false] n).toList = (List.replicate n false).map Value.bool := by
  rw [List.map_replicate]
  exact toList_madeCells_one _ _
/-- v is a slice whose elements read as the numbers zs. -/
def RdB (w : World) (v : Value) (zs : List Bool) : Prop :=
  ∃ a cap, v = .slice a zs.length cap ∧ zs.length ≤ cap ∧ cap ≤ maxLen ∧
    (zs = [] ∨ ∃ b off, a = some ⟨b, off, none⟩ ∧ b < w.heap.size ∧ ∀ i, i < zs.length → w.cell? ⟨b, off + i, none⟩ = some (.bool (zs.getD i false)))
theorem RdB.open {w : World} {v : Value} {zs : List Bool} (h : RdB w v zs) : ∃ a cap, v = .slice a zs.length cap ∧ zs.length ≤ cap ∧ cap ≤ 9223372036854775807 ∧
    (∀ i, i < zs.length → ∃ b off, a = some ⟨b, off, none⟩ ∧ b < w.heap.size ∧ ∀ i, i < zs.length → w.cell? ⟨b, off + i, none⟩ = some (.bool (zs.getD i false))) := by
  obtain ⟨a, cap, rfl, h1, h2, h3⟩ := h
  refine ⟨a, cap, rfl, h1, by unfold maxLen at h2; exact h2, fun i hi => ?_⟩
  rcases h3 with rfl | h3
  · simp at hi
  · exact h3
theorem RdB.mk {w : World} {a : Option Addr} {zs : List Bool} {n cap : Nat} (hn : zs.length = n) (h1 : n ≤ cap) (h2 : cap ≤ maxLen)
    (h : ∀ i, i < n → ∃ b off, a = some ⟨b, off, none⟩ ∧ b < w.heap.size ∧ ∀ i, i < n → w.cell? ⟨b, off + i, none⟩ = some (.bool (zs.getD i false))) : RdB w (.slice a n cap) zs := by
  subst hn
  refine ⟨a, cap, rfl, h1, h2, ?_⟩
  by_cases h0 : 0 < zs.length
  · exact .inr (h 0 h0)
  · exact .inl (List.length_eq_zero_iff.1 (by omega))
theorem RdB.below {w w' : World} {B : Nat} {v : Value} {zs : List Bool} (h : RdB w v zs) (hb : Below B w w') (hB : w.heap.size ≤ B) : RdB w' v zs := by
  obtain ⟨a, cap, rfl, h1, h2, h3⟩ := h
  refine ⟨a, cap, rfl, h1, h2, ?_⟩
  rcases h3 with h3 | ⟨b, off, rfl, hlt, hc⟩
  · exact .inl h3
  · exact .inr ⟨b, off, rfl, Nat.lt_of_lt_of_le hlt hb.size, fun i hi => (World.cell?_of_block (w := w) (hb.block b (by omega))).trans (hc i hi)⟩
theorem RdB.drew {w : World} {v : Value} {zs : List Bool} (h : RdB w v zs) : RdB w.drew v zs := h
theorem RdB.alloc {w : World} {v : Value} {zs : List Bool} (h : RdB w v zs) (o : Obj) : RdB (w.alloc o) v zs := h.below ((Below.refl _ _).alloc (Nat.le_refl _) o) (Nat.le_refl _)
theorem RdB.nil (w : World) : RdB w (.slice none 0 0) [] := ⟨none, 0, rfl, Nat.le_refl _, Nat.zero_le _, .inl rfl⟩
theorem RdB.own {w : World} {base : Nat} {e : TypeId} {v : Value} {n : Nat} {zs : List Bool} (h : w.ownsRow base e 1 v n (zs.map (Value.bool))) : RdB w v zs := by
  have hl : zs.length = n := by have := h.1; simpa using this
  by_cases h0 : 0 < n
  · obtain ⟨g, cap, rfl, h1, h2, _, h4, h5⟩ := own_open h h0
    refine RdB.mk hl h1 h2 fun i hi => ⟨g, 0, rfl, h4, fun i hi => ?_⟩
    rw [Nat.zero_add]
    exact h5 i _ (by rw [List.getElem?_map, List.getD_eq_getElem?_getD, List.getElem?_eq_getElem (by omega)]; rfl)
  · have hz : zs = [] := List.length_eq_zero_iff.1 (by omega)
    subst hz
    simp at hl; subst hl
    rcases h.2 with ⟨rfl, _⟩ | ⟨g, cap, cur, rfl, _, _, h1, h2, _⟩
    · exact RdB.nil w
    · exact RdB.mk rfl h1 h2 fun i hi => by omega
theorem RdB.built (w : World) (zs : List Bool) (cs : Array Value) (e : TypeId) (hcs : cs = (zs.map (Value.bool)).toArray) (n : Nat) (hn : zs.length = n) (hm : n ≤ maxLen) : RdB (w.alloc (.cells cs e)) (.slice (some ⟨w.heap.size, 0, none⟩) n n) zs := by
  subst hcs
  refine RdB.mk hn (Nat.le_refl _) hm fun i hi => ⟨_, 0, rfl, by simp, fun i hi => ?_⟩
  rw [Nat.zero_add, cell_of_row _ _ _ _ _ _ (heap_alloc_new w _)]
  simp [List.getD_eq_getElem?_getD, List.getElem?_eq_getElem (show i < zs.length by omega)]
def tabB (n : Nat) (f : Nat → Bool) : List Bool := (List.range n).map f
theorem tabB_len (n : Nat) (f : Nat → Bool) : (tabB n f).length = n := by simp [tabB]
theorem tabB_get (n : Nat) (f : Nat → Bool) (i : Nat) (h : i < n) : (tabB n f).getD i false = f i := by
  simp [tabB, List.getD_eq_getElem?_getD, List.getElem?_map, List.getElem?_range, h]
theorem list_extB {zs ys : List Bool} {n : Nat} (h1 : zs.length = n) (h2 : ys.length = n) (h : ∀ j, j < n → zs.getD j false = ys.getD j false) : zs = ys := by
  apply List.ext_getElem (by omega)
  intro i hi hi'
  have := h i (by omega)
  simpa [List.getD_eq_getElem?_getD, hi, hi'] using this
theorem tabB_congr {n : Nat} {f g : Nat → Bool} (h : ∀ i, i < n → f i = g i) : tabB n f = tabB n g :=
  list_extB (tabB_len n f) (tabB_len n g) fun j hj => by rw [tabB_get _ _ _ hj, tabB_get _ _ _ hj, h j hj]
theorem getD_setB (c : List Bool) (i j : Nat) (x : Bool) (h : j < c.length) : (c.set i x).getD j false = if j = i then x else c.getD j false := by
  simp only [List.getD_eq_getElem?_getD, List.getElem?_set]
  by_cases e : i = j
  · subst e; simp [h]
  · rw [if_neg e, if_neg (fun h => e h.symm)]
theorem tabB_set (n : Nat) (f : Nat → Bool) (j : Nat) (x : Bool) : (tabB n f).set j x = tabB n (fun i => if i = j then x else f i) :=
  list_extB (by simp [tabB_len]) (tabB_len _ _) fun i hi => by rw [getD_setB _ _ _ _ (by rw [tabB_len]; exact hi), tabB_get _ _ _ hi, tabB_get _ _ _ hi]
theorem falses_tab (n : Nat) : List.replicate n false = tabB n (fun _ => false) :=
  list_extB (by simp) (tabB_len _ _) fun i hi => by rw [tabB_get _ _ _ hi]; simp [List.getD_eq_getElem?_getD, List.getElem?_replicate, hi]
theorem eq_tabB (zs : List Bool) : zs = tabB zs.length (fun i => zs.getD i false) := list_extB rfl (tabB_len _ _) fun i hi => by rw [tabB_get _ _ _ hi]
/-- v is a row of the call's own, n cells, each f of its place. -/
def OB (w : World) (base g n : Nat) (f : Nat → Bool) : Prop :=
  w.ownsRow base 4 1 (.slice (some ⟨g, 0, none⟩) n n) n ((tabB n f).map (Value.bool))
theorem OB.get {w : World} {base g n : Nat} {f : Nat → Bool} (h : OB w base g n f) (j : Nat) (hj : j < n) : w.cell? ⟨g, j, none⟩ = some (.bool (f j)) := by
  have := ownb_get h j hj
  rwa [tabB_get _ _ _ hj] at this
theorem OB.frozen {w : World} {base g n : Nat} {f : Nat → Bool} (h : OB w base g n f) (j : Nat) : w.frozen? ⟨g, j, none⟩ = false := World.ownsRow.frozenAt h j
theorem OB.set {w : World} {base g n : Nat} {f : Nat → Bool} (h : OB w base g n f) (j : Nat) (x : Bool) : OB (w.setCell ⟨g, j, none⟩ (.bool x)) base g n (fun i => if i = j then x else f i) := by
  have := ownb_set h j x
  rwa [tabB_set] at this
theorem OB.congr {w : World} {base g n : Nat} {f f' : Nat → Bool} (h : OB w base g n f) (he : ∀ i, i < n → f i = f' i) : OB w base g n f' := by
  unfold OB at h ⊢
  rwa [tabB_congr he] at h
theorem OB.drew {w : World} {base g n : Nat} {f : Nat → Bool} (h : OB w base g n f) : OB w.drew base g n f := h
theorem OB.drewN {w : World} {base g n : Nat} {f : Nat → Bool} (h : OB w base g n f) (k : Nat) : OB (w.drewN k) base g n f := h
theorem OB.below {w w' : World} {base B g n : Nat} {f : Nat → Bool} (h : OB w base g n f) (hb : Below B w w') (hB : w.heap.size ≤ B) : OB w' base g n f := own_below h hb hB
theorem OB.lt {w : World} {base g n : Nat} {f : Nat → Bool} (h : OB w base g n f) : base ≤ g ∧ g < w.heap.size := own_lt h
theorem OB.rd {w : World} {base g n : Nat} {f : Nat → Bool} (h : OB w base g n f) : RdB w (.slice (some ⟨g, 0, none⟩) n n) (tabB n f) := RdB.own h
theorem OB.store_ne {w : World} {base g n : Nat} {f : Nat → Bool} (h : OB w base g n f) {a : Addr} (ha : a.block ≠ g) (u : Value) : OB (w.setCell a u) base g n f := by
  refine ⟨h.1, ?_⟩
  rcases h.2 with ⟨hn, _⟩ | ⟨g', cap, cur, e1, hbs, hgg, rest⟩
  · cases hn
  · cases e1
    refine .inr ⟨g, n, cur, rfl, hbs, ?_, rest⟩
    rw [Below.heap_setCell _ _ _ _ (fun e => ha e.symm)]; exact hgg
theorem OB.base {w : World} {base base' g n : Nat} {f : Nat → Bool} (h : OB w base g n f) (hb : base' ≤ base) : OB w base' g n f := own_base h hb
theorem OB.made {w : World} {base g n : Nat} (h : w.ownsRow base 4 1 (.slice (some ⟨g, 0, none⟩) n n) n (madeCells #[Value.bool false] n).toList) : OB w base g n (fun _ => false) := by
  rw [falses_eq, falses_tab] at h; exact h
/-- The same, of any capacity. -/
def OBC (w : World) (base g n cap : Nat) (f : Nat → Bool) : Prop :=
  w.ownsRow base 4 1 (.slice (some ⟨g, 0, none⟩) n cap) n ((tabB n f).map (Value.bool))
theorem OBC.get {w : World} {base g n cap : Nat} {f : Nat → Bool} (h : OBC w base g n cap f) (j : Nat) (hj : j < n) : w.cell? ⟨g, j, none⟩ = some (.bool (f j)) := by
  have := ownb_get h j hj
  rwa [tabB_get _ _ _ hj] at this
theorem OBC.frozen {w : World} {base g n cap : Nat} {f : Nat → Bool} (h : OBC w base g n cap f) (j : Nat) : w.frozen? ⟨g, j, none⟩ = false := World.ownsRow.frozenAt h j
theorem OBC.set {w : World} {base g n cap : Nat} {f : Nat → Bool} (h : OBC w base g n cap f) (j : Nat) (x : Bool) : OBC (w.setCell ⟨g, j, none⟩ (.bool x)) base g n cap (fun i => if i = j then x else f i) := by
  have := ownb_set h j x
  rwa [tabB_set] at this
theorem OBC.congr {w : World} {base g n cap : Nat} {f f' : Nat → Bool} (h : OBC w base g n cap f) (he : ∀ i, i < n → f i = f' i) : OBC w base g n cap f' := by
  unfold OBC at h ⊢
  rwa [tabB_congr he] at h
theorem OBC.drew {w : World} {base g n cap : Nat} {f : Nat → Bool} (h : OBC w base g n cap f) : OBC w.drew base g n cap f := h
theorem OBC.drewN {w : World} {base g n cap : Nat} {f : Nat → Bool} (h : OBC w base g n cap f) (k : Nat) : OBC (w.drewN k) base g n cap f := h
theorem OBC.below {w w' : World} {base B g n cap : Nat} {f : Nat → Bool} (h : OBC w base g n cap f) (hb : Below B w w') (hB : w.heap.size ≤ B) : OBC w' base g n cap f := own_below h hb hB
theorem OBC.lt {w : World} {base g n cap : Nat} {f : Nat → Bool} (h : OBC w base g n cap f) : base ≤ g ∧ g < w.heap.size := own_lt h
theorem OBC.rd {w : World} {base g n cap : Nat} {f : Nat → Bool} (h : OBC w base g n cap f) : RdB w (.slice (some ⟨g, 0, none⟩) n cap) (tabB n f) := RdB.own h
theorem OBC.base {w : World} {base base' g n cap : Nat} {f : Nat → Bool} (h : OBC w base g n cap f) (hb : base' ≤ base) : OBC w base' g n cap f := own_base h hb
theorem OBC.of {w : World} {base n : Nat} {v : Value} {zs : List Bool} (h : w.ownsRow base 4 1 v n (zs.map (Value.bool))) (h0 : 0 < n) :
    ∃ g cap, v = .slice (some ⟨g, 0, none⟩) n cap ∧ n ≤ cap ∧ cap ≤ maxLen ∧ OBC w base g n cap (fun i => zs.getD i false) := by
  obtain ⟨g, cap, rfl, h1, h2, h3, _, _⟩ := own_open h h0
  have hl : zs.length = n := by have := h.1; simpa using this
  refine ⟨g, cap, rfl, h1, h2, ?_⟩
  unfold OBC
  rw [← hl, ← eq_tabB, hl]
  exact h
theorem Try.info4t : (Try.prog.info? 4).map (fun i => (i.zero, i.size, i.bytes)) = some (some (.bool false), 1, 1) := by kernel_rfl
/-- WHAT THE WALK IS TOLD OF A SLICE OF BOOLS THAT CAME IN. -/
def IsRowB (w : World) (a : Option Addr) (len cap : Nat) (zs : List Bool) : Prop :=
  (a = none ∧ len = 0 ∧ cap = 0 ∧ zs = []) ∨ ∃ x, a = some x ∧ len ≤ cap ∧ cap ≤ maxLen ∧ zs.length = len ∧ ∀ i, i < len → w.cell? (x.add i) = some (.bool (zs.getD i false))
theorem bools_at {w : World} {a : Addr} {n : Nat} {zs : List Bool} (h : ∀ i, i < n → w.cell? (a.add i) = some (.bool (zs.getD i false))) (hp : 0 < n) :
    ∃ b off, a = ⟨b, off, none⟩ ∧ ∀ j, j < n → w.cell? ⟨b, off + j, none⟩ = some (.bool (zs.getD j false)) := by
  obtain ⟨b, off, spot⟩ := a
  have hspot : spot = none := by simpa [Addr.add] using World.cell?_spot (h 0 hp)
  subst hspot
  exact ⟨b, off, rfl, fun j hj => by rw [← Go.WideShapes.add_plain]; exact h j hj⟩
theorem IsRowB.rd {w : World} {a : Option Addr} {len cap : Nat} {zs : List Bool} (h : IsRowB w a len cap zs) : RdB w (.slice a len cap) zs := by
  rcases h with ⟨rfl, rfl, rfl, rfl⟩ | ⟨x, rfl, h1, h2, h3, h4⟩
  · exact RdB.nil w
  · refine RdB.mk h3 h1 h2 fun i hi => ?_
    obtain ⟨b, off, rfl, hc⟩ := bools_at h4 (by omega)
    exact ⟨b, off, rfl, World.block_lt_of_cell? w _ (hc 0 (by omega)), fun i hi => hc i hi⟩
end Go.Proofs.Ytidnmdfpnmahpaa
