/- Rows of the call's own as functions of the place. No condition. -/
import Derived.Test.YthaiopgmncnekaaDoorCycHad
set_option linter.unusedSimpArgs false
set_option linter.unusedVariables false
set_option maxRecDepth 20000
namespace Go.Proofs.YthaiopgmncnekaaDoor.Cyc
/-! ### Lists of counts -/
def tabI (n : Nat) (f : Nat → Nat) : List Int := (List.range n).map fun d => (f d : Int)
theorem tabI_len (n : Nat) (f : Nat → Nat) : (tabI n f).length = n := by simp [tabI]
theorem tabI_get (n : Nat) (f : Nat → Nat) (d : Nat) (h : d < n) : (tabI n f).getD d 0 = f d := by
  simp [tabI, List.getD_eq_getElem?_getD, List.getElem?_map, List.getElem?_range, h]
theorem zeros_tabI (n : Nat) : List.replicate n (0 : Int) = tabI n (fun _ => 0) := by
  apply List.ext_getElem (by simp [tabI])
  intro i h1 h2; simp [tabI]
theorem tabI_congr {n : Nat} {f g : Nat → Nat} (h : ∀ d, d < n → f d = g d) : tabI n f = tabI n g := by
  unfold tabI
  apply List.map_congr_left
  intro d hd; rw [h d (List.mem_range.1 hd)]
theorem tabI_set (n : Nat) (f : Nat → Nat) (j : Nat) (x : Nat) : (tabI n f).set j (x : Int) = tabI n (fun d => if d = j then x else f d) := by
  apply List.ext_getElem (by simp [tabI])
  intro i h1 h2
  simp only [tabI, List.getElem_set, List.getElem_map, List.getElem_range]
  by_cases h : j = i
  · subst h; simp
  · rw [if_neg h, if_neg (fun e => h e.symm)]
/-- The count at a place. -/
def nd (zs : List Int) (i : Nat) : Nat := (zs.getD i 0).toNat
theorem nd_out {zs : List Int} {i : Nat} (h : zs.length ≤ i) : nd zs i = 0 := by
  unfold nd; rw [List.getD_eq_getElem?_getD, List.getElem?_eq_none h]; rfl
theorem nd_tabI (n : Nat) (f : Nat → Nat) (i : Nat) : nd (tabI n f) i = if i < n then f i else 0 := by
  by_cases h : i < n
  · unfold nd; rw [tabI_get _ _ _ h, if_pos h]; simp
  · rw [if_neg h, nd_out (by rw [tabI_len]; omega)]
open Go.RowKit
theorem Tryd.info3t : (Tryd.prog.info? 3).map (fun i => (i.zero, i.size, i.bytes)) = some (some (.int .i64 0), 1, 8) := by kernel_rfl
theorem Tryd.info4t : (Tryd.prog.info? 4).map (fun i => (i.zero, i.size, i.bytes)) = some (some (.bool false), 1, 1) := by kernel_rfl
def OC (w : World) (base g n cap : Nat) (f : Nat → Nat) : Prop := w.ownsRow base 3 1 (.slice (some ⟨g, 0, none⟩) n cap) n ((tabI n f).map (Value.int .i64))
theorem OC.get {w : World} {base g n cap : Nat} {f : Nat → Nat} (h : OC w base g n cap f) (j : Nat) (hj : j < n) : w.cell? ⟨g, j, none⟩ = some (.int .i64 (f j : Nat)) := by
  have := own_get h j hj
  rwa [tabI_get _ _ _ hj] at this
theorem OC.frozen {w : World} {base g n cap : Nat} {f : Nat → Nat} (h : OC w base g n cap f) (j : Nat) : w.frozen? ⟨g, j, none⟩ = false := World.ownsRow.frozenAt h j
theorem OC.set {w : World} {base g n cap : Nat} {f : Nat → Nat} (h : OC w base g n cap f) (j x : Nat) : OC (w.setCell ⟨g, j, none⟩ (.int .i64 (x : Int))) base g n cap (fun i => if i = j then x else f i) := by
  have := own_set h j (x : Int)
  rwa [tabI_set] at this
theorem OC.congr {w : World} {base g n cap : Nat} {f f' : Nat → Nat} (h : OC w base g n cap f) (he : ∀ i, i < n → f i = f' i) : OC w base g n cap f' := by
  unfold OC at h ⊢
  rwa [tabI_congr he] at h
theorem OC.lt {w : World} {base g n cap : Nat} {f : Nat → Nat} (h : OC w base g n cap f) : base ≤ g ∧ g < w.heap.size := own_lt h
theorem OC.rd {w : World} {base g n cap : Nat} {f : Nat → Nat} (h : OC w base g n cap f) : Rd w (.slice (some ⟨g, 0, none⟩) n cap) (tabI n f) := Rd.own h
theorem OC.below {w w' : World} {base B g n cap : Nat} {f : Nat → Nat} (h : OC w base g n cap f) (hb : Below B w w') (hB : w.heap.size ≤ B) : OC w' base g n cap f := own_below h hb hB
theorem OC.made {w : World} {base g n : Nat} (h : w.ownsRow base 3 1 (.slice (some ⟨g, 0, none⟩) n n) n (madeCells #[Value.int .i64 0] n).toList) : OC w base g n n (fun _ => 0) := by
  rw [zeros_eq, zeros_tabI] at h; exact h
/-- A list of numbers that are not negative, by its counts. -/
theorem tab_nd {zs : List Int} (h : ∀ i, i < zs.length → 0 ≤ zs.getD i 0) : zs = tabI zs.length (nd zs) := by
  apply List.ext_getElem (by rw [tabI_len])
  intro i h1 h2
  have e := h i h1
  simp only [tabI, List.getElem_map, List.getElem_range]
  unfold nd
  rw [List.getD_eq_getElem?_getD, List.getElem?_eq_getElem h1, Option.getD_some] at e ⊢
  omega
theorem OC.keepAt {w w' : World} {base B g n cap : Nat} {f : Nat → Nat} (h : OC w base g n cap f) (hb : Below B w w') (hg : g < B) : OC w' base g n cap f := by
  refine ⟨h.1, ?_⟩
  rcases h.2 with hn | ⟨g', cap, cur, heq, hbs, hgg, rest⟩
  · exact .inl hn
  · refine .inr ⟨g', cap, cur, heq, hbs, ?_, rest⟩
    cases heq
    rw [hb.block g hg]
    exact hgg
end Go.Proofs.YthaiopgmncnekaaDoor.Cyc
