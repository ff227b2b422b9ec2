/- Rows of the call's own as functions of the place; slices of slices that are read. No condition. -/
import Derived.Test.YtmhkbcfdcbbdgaaConcatI
import Derived.Deep.Matrix
set_option linter.unusedSimpArgs false
set_option linter.unusedVariables false
namespace Go.Proofs.Ytmhkbcfdcbbdgaa
/-! ### Lists of counts -/
def tabI (n : Nat) (f : Nat → Nat) : List Int := (List.range n).map fun d => (f d : Int)
theorem tabI_len (n : Nat) (f : Nat → Nat) : (tabI n f).length = n := by simp [tabI]
theorem tabI_get (n : Nat) (f : Nat → Nat) (d : Nat) (h : d < n) : (tabI n f).getD d 0 = f d := by
  simp [tabI, List.getD_eq_getElem?_getD, List.getElem?_map, List.getElem?_range, h]
theorem zeros_tabI (n : Nat) : List.replicate n (0 : Int) = tabI n (fun _ => 0) := by
  apply List.ext_getElem (by simp [tabI])
  intro i h1 h2; simp [tabI]
theorem tabI_congr {n : Nat} {f g : Nat → Nat} (h : ∀ d, d < n → f d = g d) : tabI n f = tabI n g := by
  unfold tabI
  apply List.map_congr_left
  intro d hd; rw [h d (List.mem_range.1 hd)]
theorem tabI_set (n : Nat) (f : Nat → Nat) (j : Nat) (x : Nat) : (tabI n f).set j (x : Int) = tabI n (fun d => if d = j then x else f d) := by
  apply List.ext_getElem (by simp [tabI])
  intro i h1 h2
  simp only [tabI, List.getElem_set, List.getElem_map, List.getElem_range]
  by_cases h : j = i
  · subst h; simp
  · rw [if_neg h, if_neg (fun e => h e.symm)]
/-- The count at a place. -/
def nd (zs : List Int) (i : Nat) : Nat := (zs.getD i 0).toNat
theorem nd_out {zs : List Int} {i : Nat} (h : zs.length ≤ i) : nd zs i = 0 := by
  unfold nd; rw [List.getD_eq_getElem?_getD, List.getElem?_eq_none h]; rfl
theorem nd_tabI (n : Nat) (f : Nat → Nat) (i : Nat) : nd (tabI n f) i = if i < n then f i else 0 := by
  by_cases h : i < n
  · unfold nd; rw [tabI_get _ _ _ h, if_pos h]; simp
  · rw [if_neg h, nd_out (by rw [tabI_len]; omega)]
open Go.RowKit
def OC (w : World) (base g n cap : Nat) (f : Nat → Nat) : Prop := w.ownsRow base 3 1 (.slice (some ⟨g, 0, none⟩) n cap) n ((tabI n f).map (Value.int .i64))
theorem OC.get {w : World} {base g n cap : Nat} {f : Nat → Nat} (h : OC w base g n cap f) (j : Nat) (hj : j < n) : w.cell? ⟨g, j, none⟩ = some (.int .i64 (f j : Nat)) := by
  have := own_get h j hj
  rwa [tabI_get _ _ _ hj] at this
theorem OC.frozen {w : World} {base g n cap : Nat} {f : Nat → Nat} (h : OC w base g n cap f) (j : Nat) : w.frozen? ⟨g, j, none⟩ = false := World.ownsRow.frozenAt h j
theorem OC.set {w : World} {base g n cap : Nat} {f : Nat → Nat} (h : OC w base g n cap f) (j x : Nat) : OC (w.setCell ⟨g, j, none⟩ (.int .i64 (x : Int))) base g n cap (fun i => if i = j then x else f i) := by
  have := own_set h j (x : Int)
  rwa [tabI_set] at this
theorem OC.congr {w : World} {base g n cap : Nat} {f f' : Nat → Nat} (h : OC w base g n cap f) (he : ∀ i, i < n → f i = f' i) : OC w base g n cap f' := by
  unfold OC at h ⊢
  rwa [tabI_congr he] at h
theorem OC.lt {w : World} {base g n cap : Nat} {f : Nat → Nat} (h : OC w base g n cap f) : base ≤ g ∧ g < w.heap.size := own_lt h
theorem OC.rd {w : World} {base g n cap : Nat} {f : Nat → Nat} (h : OC w base g n cap f) : Rd w (.slice (some ⟨g, 0, none⟩) n cap) (tabI n f) := Rd.own h
theorem OC.below {w w' : World} {base B g n cap : Nat} {f : Nat → Nat} (h : OC w base g n cap f) (hb : Below B w w') (hB : w.heap.size ≤ B) : OC w' base g n cap f := own_below h hb hB
theorem OC.made {w : World} {base g n : Nat} (h : w.ownsRow base 3 1 (.slice (some ⟨g, 0, none⟩) n n) n (madeCells #[Value.int .i64 0] n).toList) : OC w base g n n (fun _ => 0) := by
  rw [zeros_eq, zeros_tabI] at h; exact h
/-- A list of numbers that are not negative, by its counts. -/
theorem tab_nd {zs : List Int} (h : ∀ i, i < zs.length → 0 ≤ zs.getD i 0) : zs = tabI zs.length (nd zs) := by
  apply List.ext_getElem (by rw [tabI_len])
  intro i h1 h2
  have e := h i h1
  simp only [tabI, List.getElem_map, List.getElem_range]
  unfold nd
  rw [List.getD_eq_getElem?_getD, List.getElem?_eq_getElem h1, Option.getD_some] at e ⊢
  omega
/-! ### Slices of slices of ints that are read -/
def RdM (w : World) (v : Value) (zss : List (List Int)) : Prop :=
  ∃ a cap, v = .slice a zss.length cap ∧ zss.length ≤ cap ∧ cap ≤ maxLen ∧
    (zss = [] ∨ ∃ (b off : Nat) (U : Nat → Value), a = some ⟨b, off, none⟩ ∧ b < w.heap.size ∧ ∀ i, i < zss.length → w.cell? ⟨b, off + i, none⟩ = some (U i) ∧ Rd w (U i) (zss.getD i []))
theorem RdM.open {w : World} {v : Value} {zss : List (List Int)} (h : RdM w v zss) : ∃ a cap, v = .slice a zss.length cap ∧ zss.length ≤ cap ∧ cap ≤ 9223372036854775807 ∧
    (0 < zss.length → ∃ (b off : Nat) (U : Nat → Value), a = some ⟨b, off, none⟩ ∧ b < w.heap.size ∧ ∀ i, i < zss.length → w.cell? ⟨b, off + i, none⟩ = some (U i) ∧ Rd w (U i) (zss.getD i [])) := by
  obtain ⟨a, cap, rfl, h1, h2, h3⟩ := h
  refine ⟨a, cap, rfl, h1, by unfold maxLen at h2; exact h2, fun hi => ?_⟩
  rcases h3 with rfl | h3
  · simp at hi
  · exact h3
theorem RdM.below {w w' : World} {B : Nat} {v : Value} {zss : List (List Int)} (h : RdM w v zss) (hb : Below B w w') (hB : w.heap.size ≤ B) : RdM w' v zss := by
  obtain ⟨a, cap, rfl, h1, h2, h3⟩ := h
  refine ⟨a, cap, rfl, h1, h2, ?_⟩
  rcases h3 with h3 | ⟨b, off, U, rfl, hlt, hc⟩
  · exact .inl h3
  · exact .inr ⟨b, off, U, rfl, Nat.lt_of_lt_of_le hlt hb.size, fun i hi => ⟨(World.cell?_of_block (w := w) (hb.block b (by omega))).trans (hc i hi).1, (hc i hi).2.below hb hB⟩⟩
theorem RdM.alloc {w : World} {v : Value} {zss : List (List Int)} (h : RdM w v zss) (o : Obj) : RdM (w.alloc o) v zss := h.below ((Below.refl _ _).alloc (Nat.le_refl _) o) (Nat.le_refl _)
theorem RdM.mk {w : World} {a : Option Addr} {zss : List (List Int)} {n cap : Nat} (hn : zss.length = n) (h1 : n ≤ cap) (h2 : cap ≤ maxLen)
    (h : 0 < n → ∃ (b off : Nat) (U : Nat → Value), a = some ⟨b, off, none⟩ ∧ b < w.heap.size ∧ ∀ i, i < n → w.cell? ⟨b, off + i, none⟩ = some (U i) ∧ Rd w (U i) (zss.getD i [])) : RdM w (.slice a n cap) zss := by
  subst hn
  refine ⟨a, cap, rfl, h1, h2, ?_⟩
  by_cases h0 : 0 < zss.length
  · exact .inr (h h0)
  · exact .inl (List.length_eq_zero_iff.1 (by omega))
open ChangeShapes WideShapes in
theorem open_mat {H : Type} {enc : TypeId × Value → H} {W : World} {base : Nat} {v : Value} {d : DataW H} {p : List MemPlace} (hval : Value.okWide Try.prog W .any base 23 v)
    (h : DataW.Trod enc Try.prog W 0 (fun _ => true) true 23 v d p) (lt : ∀ x ∈ p, x.block < W.heap.size) :
    ∃ x : Option Addr × Nat × Nat × List (List Int), v = .slice x.1 x.2.1 x.2.2.1 ∧ RdM W (.slice x.1 x.2.1 x.2.2.1) x.2.2.2 := by
  obtain ⟨a, len, cap, rfl⟩ := okWide_slice Try.underlying23 hval
  obtain ⟨fuel, hf⟩ := h
  rcases Go.Deep.open_int_rows Try.underlying23 Try.underlying22 Try.underlying3 (by kernel_rfl) (by kernel_rfl) hf with ⟨hcs, _⟩ | ⟨x, l, c, A, L, C, Z, hcs, _, hl, hm, hx, hcell⟩
  · simp [Value.cells] at hcs
    obtain ⟨rfl, rfl, rfl⟩ := hcs
    exact ⟨(none, 0, 0, []), rfl, RdM.mk rfl (Nat.le_refl _) (Nat.zero_le _) (fun h => absurd h (by decide))⟩
  · simp [Value.cells] at hcs
    obtain ⟨rfl, rfl, rfl⟩ := hcs
    refine ⟨(some x, len, cap, (List.range len).map fun r => (Z r).take (L r)), rfl, RdM.mk (by simp) hl hm fun h0 => ?_⟩
    have h0 : 0 < len := h0
    obtain ⟨b, off, spot⟩ := x
    have hsp : spot = none := by simpa [Addr.add] using World.cell?_spot (hcell 0 (by omega)).1
    subst hsp
    refine ⟨b, off, fun r => .slice (A r) (L r) (C r), rfl, World.block_lt_of_cell? W _ (hcell 0 (by omega)).1, fun i hi => ?_⟩
    have hi : i < len := hi
    obtain ⟨e1, e2, e3, e4, e5, e6, e7⟩ := hcell i (by omega)
    refine ⟨by rw [WideShapes.add_plain] at e1; exact e1, ?_⟩
    have hg : ((List.range len).map fun r => (Z r).take (L r)).getD i [] = (Z i).take (L i) := by
      simp [List.getD_eq_getElem?_getD, List.getElem?_map, List.getElem?_range, hi]
    rw [hg]
    have hl2 : ((Z i).take (L i)).length = L i := by rw [List.length_take]; omega
    refine Rd.mk hl2 e2 e3 fun j hj => ?_
    cases ha : A i with
    | none => have := e6 ha; omega
    | some a' =>
      obtain ⟨_, e8⟩ := e7 a' ha
      obtain ⟨b', off', spot'⟩ := a'
      have hsp : spot' = none := by simpa [Addr.add] using World.cell?_spot (e8 0 (by omega))
      subst hsp
      refine ⟨b', off', rfl, World.block_lt_of_cell? W _ (e8 0 (by omega)), fun k hk => ?_⟩
      have := e8 k (by omega)
      rw [show ((Z i).take (L i)).getD k 0 = (Z i).getD k 0 by
        rw [List.getD_eq_getElem?_getD, List.getElem?_take, if_pos hk, List.getD_eq_getElem?_getD]]
      rw [WideShapes.add_plain] at this; exact this
end Go.Proofs.Ytmhkbcfdcbbdgaa
