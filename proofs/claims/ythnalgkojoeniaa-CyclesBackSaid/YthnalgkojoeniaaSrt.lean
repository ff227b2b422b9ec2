/- slices.SortFunc with Flat's closure: what it leaves of rows. No condition but that the rows are not empty. -/
import Derived.Test.YthnalgkojoeniaaConcN
import Derived.Test.YthnalgkojoeniaaLays
import Derived.Shelf.SlSortCmp.Whole1
import Derived.Sort.Grow
set_option linter.unusedSimpArgs false
set_option linter.unusedVariables false
namespace Go.Proofs.Ythnalgkojoeniaa
open Go.RowKit
theorem holds_block {w : World} {g : Nat} {cur : Array Value} {e : TypeId} {α : Type} [Inhabited α] (enc : α → Value) {ss : List α} (hb : w.heap[g]? = some (.cells cur e (0, 0))) (ht : cur.toList.take ss.length = ss.map enc) : Sort.Holds enc w g 0 ss.toArray := by
  intro j hj
  have hj' : j < ss.length := by simpa using hj
  refine ⟨?_, by simp [World.frozen?, hb]⟩
  have h1 : (cur.toList.take ss.length)[j]? = (ss.map enc)[j]? := by rw [ht]
  rw [List.getElem?_take_of_lt hj'] at h1
  simp only [World.cell?, hb, Nat.zero_add]
  simp only [Option.isSome_none, Bool.false_eq_true, if_false]
  rw [← Array.getElem?_toList, h1]
  simp [hj']
theorem take_put {α : Type} [Inhabited α] (enc : α → Value) (cur : Array Value) (ts : List α) (h : ts.length ≤ cur.size) : (Sort.putCells enc 0 ts.toArray cur).toList.take ts.length = ts.map enc := by
  apply List.ext_getElem?
  intro j
  by_cases hj : j < ts.length
  · rw [List.getElem?_take_of_lt hj, Array.getElem?_toList]
    simp [Sort.putCells, hj, show j < cur.size by omega]
  · rw [List.getElem?_take_eq_none (by omega), List.getElem?_eq_none (by simp; omega)]
theorem heap_sort {α : Type} [Inhabited α] (enc : α → Value) {w : World} {g n : Nat} {os : Array Obj} {cur : Array Value} {e : TypeId} (d : Array α) (hb : w.heap[g]? = some (.cells cur e (0, 0))) :
    (Sort.grow (Sort.putRow enc (Sort.ahead w n) g 0 d) os).heap[g]? = some (.cells (Sort.putCells enc 0 d cur) e (0, 0)) := by
  have hg : g < w.heap.size := (Array.getElem?_eq_some_iff.1 hb).1
  rw [Sort.heap_grow_old _ _ (by simpa using hg)]
  simp [Sort.putRow, Sort.mapBlock, Sort.ahead, Array.getElem?_modify, hb, Sort.onCells]
theorem grownBy_sort {α : Type} [Inhabited α] (enc : α → Value) {w : World} {g n : Nat} {os : Array Obj} (d : Array α) : w.grownBy (Sort.grow (Sort.putRow enc (Sort.ahead w n) g 0 d) os) (some g) := by
  refine ⟨rfl, rfl, rfl, by simp, fun k hk hne => ?_⟩
  rw [Sort.heap_grow_old _ _ (by simpa using hk)]
  have : g ≠ k := fun e => hne (by rw [e])
  simp [Sort.putRow, Sort.mapBlock, Sort.ahead, Array.getElem?_modify, this]
/-- A row of one's own behind a sort of it, or the like. -/
theorem own_sorted {α : Type} [Inhabited α] (enc : α → Value) {base : Nat} {e : TypeId} {g cap n k : Nat} {os : Array Obj} {cur : Array Value} {w : World} {ts : List α} (hbg : base ≤ g) (hg : w.heap[g]? = some (.cells cur e (0, 0))) (h1 : n ≤ cap) (h2 : cap ≤ maxLen) (h3 : cur.size = cap) (hl : ts.length = n) :
    (Sort.grow (Sort.putRow enc (Sort.ahead w k) g 0 ts.toArray) os).ownsRow base e 1 (.slice (some ⟨g, 0, none⟩) n cap) n (ts.map enc) := by
  refine ⟨by simp [hl], .inr ⟨g, cap, _, rfl, hbg, heap_sort enc _ hg, h1, h2, by simp [Sort.putCells, h3], ?_⟩⟩
  rw [Nat.mul_one, ← hl]
  exact take_put enc cur ts (by omega)
theorem clo_any (a b : Value) (xs ys : List Int) (w : World) (h1 : Rd w a xs) (h2 : Rd w b ys) (p1 : 0 < xs.length) (p2 : 0 < ys.length) (b1 : 0 ≤ xs.getD 0 0 ∧ xs.getD 0 0 ≤ 1000) (b2 : 0 ≤ ys.getD 0 0 ∧ ys.getD 0 0 ≤ 1000) :
    Calls Try.prog 29 #[a, b] w fun e w' => e = .returned (.int .i64 (xs.getD 0 0 - ys.getD 0 0)) ∧ ∃ q, w' = w.drewN q := by
  obtain ⟨a1, c1, rfl, hl1, hm1, ho1⟩ := h1.open
  obtain ⟨a2, c2, rfl, hl2, hm2, ho2⟩ := h2.open
  obtain ⟨e1, o1, rfl, hb1, hc1⟩ := ho1 0 p1
  obtain ⟨e2, o2, rfl, hb2, hc2⟩ := ho2 0 p2
  have cx := hc1 0 p1
  have cy := hc2 0 p2
  rw [Nat.add_zero] at cx cy
  generalize xs.getD 0 0 = x at *
  generalize ys.getD 0 0 = y at *
  generalize xs.length = n at *
  generalize ys.length = m at *
  clear h1 h2 ho1 ho2 hc1 hc2
  go_enter Try.func29, Try.ntmps29
  go_wp2_with fail
  have hw : IntKind.i64.wrap (x - y) = x - y := by simp [IntKind.wrap, IntKind.bits, IntKind.signed]; omega
  go_quiet (fail)
  go_wp2_with fail
  go_ret
  exact ⟨rfl, _, rfl⟩
/-- A row that can be compared: it reads, is not empty, and its first one is small. -/
def Cmpb (w : World) (base : Nat) (p : Value × List Int) : Prop := RowAt w base p.1 p.2 ∧ 0 < p.2.length ∧ 0 ≤ p.2.getD 0 0 ∧ p.2.getD 0 0 ≤ 1000
def elEnc {w : World} {base : Nat} (x : { p : Value × List Int // Cmpb w base p }) : Value := x.1.1
def elKey {w : World} {base : Nat} (x : { p : Value × List Int // Cmpb w base p }) : Int := x.1.2.getD 0 0
def cfE {w : World} {base : Nat} (x y : { p : Value × List Int // Cmpb w base p }) : Int := elKey x - elKey y
theorem cfE_lt {w : World} {base : Nat} (x y : { p : Value × List Int // Cmpb w base p }) : ltOf cfE x y = decide (elKey x < elKey y) := by
  unfold ltOf cfE
  exact decide_eq_decide.2 ⟨fun h => by omega, fun h => by omega⟩
theorem swoE {w : World} {base : Nat} : Sort.SWO (ltOf (cfE (w := w) (base := base))) where
  irrefl x := by rw [cfE_lt]; simp
  trans x y z h1 h2 := by rw [cfE_lt] at *; simp at *; omega
  ntrans x y z h1 h2 := by rw [cfE_lt] at *; simp at *; omega
theorem RowAt.sorted {w w' : World} {base g : Nat} {V : Value} {r : List Int} {cur : Array Value} {fr : Nat × Nat} (h : RowAt w base V r) (hg : w.heap[g]? = some (.cells cur 22 fr)) (hgr : w.grownBy w' (some g)) : RowAt w' base V r :=
  h.kept hgr.size fun k hk _ ⟨cs, fr, hcs⟩ => hgr.block k hk fun e => by
    injection e with e
    subst e
    rw [hg] at hcs
    cases hcs
theorem own_one {w : World} {base : Nat} {V : Value} {r : List Int} (h : RowAt w base V r) : V.oneCell' = true := by
  obtain ⟨a, c, rfl, _⟩ := h; rfl
theorem sort_rows (base : Nat) (v : Value) (zss : List (List Int)) (w : World) (h : OM w base v zss) (h0 : 0 < zss.length) (hm : zss.length ≤ 1000)
    (hr : ∀ j, j < zss.length → 0 < (zss.getD j []).length ∧ 0 ≤ (zss.getD j []).getD 0 0 ∧ (zss.getD j []).getD 0 0 ≤ 1000) :
    Calls Try.prog 28 #[v, .func (.func 29) #[] #[]] w fun e w' => e = .returned (.tuple #[]) ∧ ∃ yss : List (List Int), yss.Perm zss ∧ yss.Pairwise (fun a b => a.getD 0 0 ≤ b.getD 0 0) ∧ OM w' base v yss ∧ Below base w w' := by
  obtain ⟨V, hown, -, hrow⟩ := h
  have hC : ∀ j : Fin zss.length, Cmpb w base (V j, zss.getD j []) := fun j => ⟨hrow j j.2, hr j j.2⟩
  obtain ⟨ss, hss⟩ : ∃ ss : List { p : Value × List Int // Cmpb w base p }, ss = (List.finRange zss.length).map fun j => ⟨(V j, zss.getD j []), hC j⟩ := ⟨_, rfl⟩
  have e1 : (List.range zss.length).map V = ss.map elEnc := by
    rw [hss, List.map_map]
    apply List.ext_getElem (by simp)
    intro i a b
    simp [elEnc]
  have e2 : ss.map (fun x => x.1.2) = zss := by
    rw [hss, List.map_map]
    apply List.ext_getElem (by simp)
    intro i a b
    simp [List.getD_eq_getElem?_getD, List.getElem?_eq_getElem b]
  have hn : ss.length = zss.length := by rw [hss]; simp
  haveI : Inhabited { p : Value × List Int // Cmpb w base p } := ⟨⟨(V 0, zss.getD 0 []), hC ⟨0, h0⟩⟩⟩
  rw [e1] at hown
  rcases hown.2 with ⟨rfl, h0'⟩ | ⟨g, cap, cur, rfl, hbg, hg, h1, h2, h3, h4⟩
  · omega
  · rw [Nat.mul_one, ← hn] at h4
    have hlt := (Array.getElem?_eq_some_iff.1 hg).1
    have hcmp : CmpLays1 Try.prog 29 #[] (elEnc (w := w) (base := base)) cfE g 0 ss.toArray.size w := fun m os dk hs x y => by
      have hgr := grownBy_sort (w := w) (g := g) (n := m) (os := os) elEnc dk
      have r1 := (x.2.1.sorted hg hgr).rd
      have r2 := (y.2.1.sorted hg hgr).rd
      refine (clo_any x.1.1 y.1.1 x.1.2 y.1.2 _ r1 r2 x.2.2.1 y.2.2.1 x.2.2.2 y.2.2.2).mono ?_
      rintro e w' ⟨rfl, q, rfl⟩
      exact ⟨rfl, q, #[], by rw [Sort.grow_empty]; rfl⟩
    have := Any.slices_SortFunc Try.laysSortF elEnc (fun x => own_one x.2.1) cfE swoE 29 #[] g 0 cap ss.toArray w (enters_of Try.func29 (by kernel_rfl) rfl) hcmp (holds_block elEnc hg h4) hlt (by simp; omega)
    have hsz : ss.toArray.size = zss.length := by simp [hn]
    rw [hsz] at this
    refine Calls.mono this ?_
    rintro e w' ⟨rfl, d', k, os, hp, hs, rfl⟩
    have hl : d'.size = zss.length := hp.1.trans hsz
    have hperm : d'.toList.Perm ss := by
      have := hp.2.2
      rw [Array.toList_extract, Array.toList_extract] at this
      simp [List.extract_eq_take_drop, hl, hn] at this
      rwa [List.take_of_length_le (by simp [hl]), List.take_of_length_le (by omega)] at this
    have hgr := grownBy_sort (w := w) (g := g) (n := k) (os := os) elEnc d'
    refine ⟨rfl, d'.toList.map (fun x => x.1.2), ?_, ?_, ?_, ?_⟩
    · rw [← e2]; exact hperm.map _
    · refine List.pairwise_map.2 (List.pairwise_iff_getElem.2 fun i j hi hj hij => ?_)
      have := hs i j (Nat.zero_le _) hij (by simpa [hl] using hj)
      rw [cfE_lt, decide_eq_false_iff_not] at this
      have e1 : d'[i]! = d'.toList[i] := by simp [getElem!_pos, show i < d'.size by simpa using hi]
      have e2 : d'[j]! = d'.toList[j] := by simp [getElem!_pos, show j < d'.size by simpa using hj]
      rw [e1, e2] at this
      unfold elKey at this
      omega
    · refine ⟨fun j => ((d'.toList.map elEnc).getD j (.int .i64 0)), ?_, fun h => by rw [List.length_map, Array.length_toList, hl] at h; omega, fun j hj => ?_⟩
      · have := own_sorted elEnc (n := zss.length) (k := k) (os := os) (ts := d'.toList) hbg hg h1 h2 (by rw [h3, Nat.mul_one]) (by rw [Array.length_toList, hl])
        have e5 : (List.range (d'.toList.map (fun x => x.1.2)).length).map (fun j => ((d'.toList.map elEnc).getD j (.int .i64 0))) = d'.toList.map elEnc := by
          apply List.ext_getElem (by simp)
          intro i a b
          have hi : i < d'.toList.length := by simpa using b
          rw [List.getElem_map, List.getElem_range, List.getD_eq_getElem?_getD, List.getElem?_eq_getElem b]; rfl
        rw [e5]
        simpa [sortWorld, hl] using this
      · have hj' : j < d'.toList.length := by simpa using hj
        have hx := d'.toList[j].2.1.sorted hg hgr
        have e6 : (d'.toList.map elEnc).getD j (.int .i64 0) = d'.toList[j].1.1 := by
          rw [List.getD_eq_getElem?_getD, List.getElem?_map, List.getElem?_eq_getElem hj']; rfl
        have e7 : (d'.toList.map (fun x => x.1.2)).getD j [] = d'.toList[j].1.2 := by
          rw [List.getD_eq_getElem?_getD, List.getElem?_map, List.getElem?_eq_getElem hj']; rfl
        show RowAt _ _ ((d'.toList.map elEnc).getD j (.int .i64 0)) _
        rw [e6, e7]
        exact hx
    · exact (Go.RowKit.Below.refl _ _).grown hgr (by have := hlt; omega) (fun k hk => by simp at hk; omega)
end Go.Proofs.Ythnalgkojoeniaa
