/- Rows of the call's own whose cells are a function of the place. No condition. -/
import Derived.Test.YtkebahdapkjacaaGen
set_option linter.unusedSimpArgs false
set_option linter.unusedVariables false
namespace Go.Proofs.Ytkebahdapkjacaa
open Go.RowKit
def tab (n : Nat) (f : Nat → Int) : List Int := (List.range n).map f
theorem tab_len (n : Nat) (f : Nat → Int) : (tab n f).length = n := by simp [tab]
theorem tab_get (n : Nat) (f : Nat → Int) (i : Nat) (h : i < n) : (tab n f).getD i 0 = f i := by
  simp [tab, List.getD_eq_getElem?_getD, List.getElem?_map, List.getElem?_range, h]
theorem list_ext {zs ys : List Int} {n : Nat} (h1 : zs.length = n) (h2 : ys.length = n) (h : ∀ j, j < n → zs.getD j 0 = ys.getD j 0) : zs = ys := by
  apply List.ext_getElem (by omega)
  intro i hi hi'
  have := h i (by omega)
  simpa [List.getD_eq_getElem?_getD, hi, hi'] using this
theorem tab_congr {n : Nat} {f g : Nat → Int} (h : ∀ i, i < n → f i = g i) : tab n f = tab n g :=
  list_ext (tab_len n f) (tab_len n g) fun j hj => by rw [tab_get _ _ _ hj, tab_get _ _ _ hj, h j hj]
theorem getD_set (c : List Int) (i j : Nat) (x : Int) (h : j < c.length) : (c.set i x).getD j 0 = if j = i then x else c.getD j 0 := by
  simp only [List.getD_eq_getElem?_getD, List.getElem?_set]
  by_cases e : i = j
  · subst e; simp [h]
  · rw [if_neg e, if_neg (fun h => e h.symm)]
theorem tab_set (n : Nat) (f : Nat → Int) (j : Nat) (x : Int) : (tab n f).set j x = tab n (fun i => if i = j then x else f i) :=
  list_ext (by simp [tab_len]) (tab_len _ _) fun i hi => by rw [getD_set _ _ _ _ (by rw [tab_len]; exact hi), tab_get _ _ _ hi, tab_get _ _ _ hi]
theorem zeros_tab (n : Nat) : List.replicate n (0 : Int) = tab n (fun _ => 0) :=
  list_ext (by simp) (tab_len _ _) fun i hi => by rw [tab_get _ _ _ hi]; simp [List.getD_eq_getElem?_getD, List.getElem?_replicate, hi]
theorem eq_tab (zs : List Int) : zs = tab zs.length (fun i => zs.getD i 0) := list_ext rfl (tab_len _ _) fun i hi => by rw [tab_get _ _ _ hi]
/-- v is a row of the call's own, n cells, each f of its place. -/
def OT (w : World) (base g n : Nat) (f : Nat → Int) : Prop :=
  w.ownsRow base 3 1 (.slice (some ⟨g, 0, none⟩) n n) n ((tab n f).map (Value.int .i64))
theorem OT.get {w : World} {base g n : Nat} {f : Nat → Int} (h : OT w base g n f) (j : Nat) (hj : j < n) : w.cell? ⟨g, j, none⟩ = some (.int .i64 (f j)) := by
  have := own_get h j hj
  rwa [tab_get _ _ _ hj] at this
theorem OT.frozen {w : World} {base g n : Nat} {f : Nat → Int} (h : OT w base g n f) (j : Nat) : w.frozen? ⟨g, j, none⟩ = false := World.ownsRow.frozenAt h j
theorem OT.set {w : World} {base g n : Nat} {f : Nat → Int} (h : OT w base g n f) (j : Nat) (x : Int) : OT (w.setCell ⟨g, j, none⟩ (.int .i64 x)) base g n (fun i => if i = j then x else f i) := by
  have := own_set h j x
  rwa [tab_set] at this
theorem OT.congr {w : World} {base g n : Nat} {f f' : Nat → Int} (h : OT w base g n f) (he : ∀ i, i < n → f i = f' i) : OT w base g n f' := by
  unfold OT at h ⊢
  rwa [tab_congr he] at h
theorem OT.drew {w : World} {base g n : Nat} {f : Nat → Int} (h : OT w base g n f) : OT w.drew base g n f := h
theorem OT.drewN {w : World} {base g n : Nat} {f : Nat → Int} (h : OT w base g n f) (k : Nat) : OT (w.drewN k) base g n f := h
theorem OT.below {w w' : World} {base B g n : Nat} {f : Nat → Int} (h : OT w base g n f) (hb : Below B w w') (hB : w.heap.size ≤ B) : OT w' base g n f := own_below h hb hB
theorem OT.lt {w : World} {base g n : Nat} {f : Nat → Int} (h : OT w base g n f) : base ≤ g ∧ g < w.heap.size := own_lt h
theorem OT.rd {w : World} {base g n : Nat} {f : Nat → Int} (h : OT w base g n f) : Rd w (.slice (some ⟨g, 0, none⟩) n n) (tab n f) := Rd.own h
theorem OT.store_ne {w : World} {base g n : Nat} {f : Nat → Int} (h : OT w base g n f) {a : Addr} (ha : a.block ≠ g) (u : Value) : OT (w.setCell a u) base g n f := by
  refine ⟨h.1, ?_⟩
  rcases h.2 with ⟨hn, _⟩ | ⟨g', cap, cur, e1, hbs, hgg, rest⟩
  · cases hn
  · cases e1
    refine .inr ⟨g, n, cur, rfl, hbs, ?_, rest⟩
    rw [Below.heap_setCell _ _ _ _ (fun e => ha e.symm)]; exact hgg
theorem OT.base {w : World} {base base' g n : Nat} {f : Nat → Int} (h : OT w base g n f) (hb : base' ≤ base) : OT w base' g n f := own_base h hb
theorem OT.made {w : World} {base g n : Nat} (h : w.ownsRow base 3 1 (.slice (some ⟨g, 0, none⟩) n n) n (madeCells #[Value.int .i64 0] n).toList) : OT w base g n (fun _ => 0) := by
  rw [zeros_eq, zeros_tab] at h; exact h
/-- The same, of any capacity. -/
def OC (w : World) (base g n cap : Nat) (f : Nat → Int) : Prop :=
  w.ownsRow base 3 1 (.slice (some ⟨g, 0, none⟩) n cap) n ((tab n f).map (Value.int .i64))
theorem OC.get {w : World} {base g n cap : Nat} {f : Nat → Int} (h : OC w base g n cap f) (j : Nat) (hj : j < n) : w.cell? ⟨g, j, none⟩ = some (.int .i64 (f j)) := by
  have := own_get h j hj
  rwa [tab_get _ _ _ hj] at this
theorem OC.frozen {w : World} {base g n cap : Nat} {f : Nat → Int} (h : OC w base g n cap f) (j : Nat) : w.frozen? ⟨g, j, none⟩ = false := World.ownsRow.frozenAt h j
theorem OC.set {w : World} {base g n cap : Nat} {f : Nat → Int} (h : OC w base g n cap f) (j : Nat) (x : Int) : OC (w.setCell ⟨g, j, none⟩ (.int .i64 x)) base g n cap (fun i => if i = j then x else f i) := by
  have := own_set h j x
  rwa [tab_set] at this
theorem OC.congr {w : World} {base g n cap : Nat} {f f' : Nat → Int} (h : OC w base g n cap f) (he : ∀ i, i < n → f i = f' i) : OC w base g n cap f' := by
  unfold OC at h ⊢
  rwa [tab_congr he] at h
theorem OC.drew {w : World} {base g n cap : Nat} {f : Nat → Int} (h : OC w base g n cap f) : OC w.drew base g n cap f := h
theorem OC.drewN {w : World} {base g n cap : Nat} {f : Nat → Int} (h : OC w base g n cap f) (k : Nat) : OC (w.drewN k) base g n cap f := h
theorem OC.below {w w' : World} {base B g n cap : Nat} {f : Nat → Int} (h : OC w base g n cap f) (hb : Below B w w') (hB : w.heap.size ≤ B) : OC w' base g n cap f := own_below h hb hB
theorem OC.lt {w : World} {base g n cap : Nat} {f : Nat → Int} (h : OC w base g n cap f) : base ≤ g ∧ g < w.heap.size := own_lt h
theorem OC.rd {w : World} {base g n cap : Nat} {f : Nat → Int} (h : OC w base g n cap f) : Rd w (.slice (some ⟨g, 0, none⟩) n cap) (tab n f) := Rd.own h
theorem OC.base {w : World} {base base' g n cap : Nat} {f : Nat → Int} (h : OC w base g n cap f) (hb : base' ≤ base) : OC w base' g n cap f := own_base h hb
theorem OC.of {w : World} {base n : Nat} {v : Value} {zs : List Int} (h : w.ownsRow base 3 1 v n (zs.map (Value.int .i64))) (h0 : 0 < n) :
    ∃ g cap, v = .slice (some ⟨g, 0, none⟩) n cap ∧ n ≤ cap ∧ cap ≤ maxLen ∧ OC w base g n cap (fun i => zs.getD i 0) := by
  obtain ⟨g, cap, rfl, h1, h2, h3, _, _⟩ := own_open h h0
  have hl : zs.length = n := by have := h.1; simpa using this
  refine ⟨g, cap, rfl, h1, h2, ?_⟩
  unfold OC
  rw [← hl, ← eq_tab, hl]
  exact h
theorem Try.info3t : (Try.prog.info? 3).map (fun i => (i.zero, i.size, i.bytes)) = some (some (.int .i64 0), 1, 8) := by kernel_rfl
/-- make([]int, n) as a function of the world. -/
theorem OT.maker (n : Nat) (hn : n ≤ 17592186044416) : ∃ f : World → World, ∀ w : World, (Instr.makeSlice 26 (.int .i64 (n : Int)) (.int .i64 (n : Int))).run Try.prog w = .ok (.slice (some ⟨w.heap.size, 0, none⟩) n n) (f w) ∧ OT (f w) w.heap.size w.heap.size n (fun _ => 0) ∧ w.grownBy (f w) none := by
  obtain ⟨i0, hi, hz0, hz1, hz2⟩ := info_parts Try.info3t
  refine Classical.axiomOfChoice (r := fun w w' => (Instr.makeSlice 26 (.int .i64 (n : Int)) (.int .i64 (n : Int))).run Try.prog w = .ok (.slice (some ⟨w.heap.size, 0, none⟩) n n) w' ∧ OT w' w.heap.size w.heap.size n (fun _ => 0) ∧ w.grownBy w' none) fun w => ?_
  obtain ⟨w', a, b, c⟩ := run_make_full (P := Try.prog) w w.heap.size 26 3 i0 (.int .i64 0) 1 Try.underlying26 hi hz0 hz1 .i64 .i64 n (by rw [hz2]; omega) (by unfold maxLen; omega) (Nat.le_refl _)
  rw [Nat.mul_one] at b
  exact ⟨w', a, OT.made b, c⟩
end Go.Proofs.Ytkebahdapkjacaa
