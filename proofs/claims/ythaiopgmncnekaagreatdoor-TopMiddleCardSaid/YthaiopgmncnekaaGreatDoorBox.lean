/- A pool in a block of its own. No condition. -/
import Derived.Test.YthaiopgmncnekaaGreatDoorClone
import Derived.Laws.ResultCell
set_option linter.unusedSimpArgs false
set_option linter.unusedVariables false
set_option maxRecDepth 20000
namespace Go.Proofs.YthaiopgmncnekaaGreatDoor
open Go.RowKit
/-- Block b holds a pool. -/
def BX (w : World) (b : Nat) (r c : Int) (hv : Value) : Prop := w.heap[b]? = some (.cells #[.int .i64 r, .int .i64 c, hv] 56)
theorem BX.lt {w : World} {b : Nat} {r c : Int} {hv : Value} (h : BX w b r c hv) : b < w.heap.size := (Array.getElem?_eq_some_iff.1 h).1
theorem BX.below {w w' : World} {B b : Nat} {r c : Int} {hv : Value} (h : BX w b r c hv) (hb : Below B w w') (hB : b < B) : BX w' b r c hv := (hb.block b hB).trans h
theorem BX.drewN {w : World} {b : Nat} {r c : Int} {hv : Value} (h : BX w b r c hv) (q : Nat) : BX (w.drewN q) b r c hv := h
theorem BX.new (w : World) (r c : Int) (hv : Value) : BX (w.alloc (.cells #[.int .i64 r, .int .i64 c, hv] 56)) w.heap.size r c hv := heap_alloc_new w _
theorem BX.c0 {w : World} {b : Nat} {r c : Int} {hv : Value} (h : BX w b r c hv) : w.cell? ⟨b, 0, none⟩ = some (.int .i64 r) := by rw [cell_of_row _ _ _ _ _ _ h]; rfl
theorem BX.c1 {w : World} {b : Nat} {r c : Int} {hv : Value} (h : BX w b r c hv) : w.cell? ⟨b, 1, none⟩ = some (.int .i64 c) := by rw [cell_of_row _ _ _ _ _ _ h]; rfl
theorem BX.c2 {w : World} {b : Nat} {r c : Int} {hv : Value} (h : BX w b r c hv) : w.cell? ⟨b, 2, none⟩ = some hv := by rw [cell_of_row _ _ _ _ _ _ h]; rfl
theorem BX.fr {w : World} {b : Nat} {r c : Int} {hv : Value} (h : BX w b r c hv) (j : Nat) : w.frozen? ⟨b, j, none⟩ = false := by
  have h : w.heap[b]? = some (.cells #[.int .i64 r, .int .i64 c, hv] 56 (0, 0)) := h
  simp [World.frozen?, h]
theorem BX.set0 {w : World} {b : Nat} {r c : Int} {hv : Value} (h : BX w b r c hv) (r' : Int) : BX (w.setCell ⟨b, 0, none⟩ (.int .i64 r')) b r' c hv := by
  have := heap_at_setCell (j := 0) (u := .int .i64 r') h
  simpa [BX] using this
theorem BX.set1 {w : World} {b : Nat} {r c : Int} {hv : Value} (h : BX w b r c hv) (c' : Int) : BX (w.setCell ⟨b, 1, none⟩ (.int .i64 c')) b r c' hv := by
  have := heap_at_setCell (j := 1) (u := .int .i64 c') h
  simpa [BX] using this
theorem BX.set2 {w : World} {b : Nat} {r c : Int} {hv : Value} (h : BX w b r c hv) (hv' : Value) : BX (w.setCell ⟨b, 2, none⟩ hv') b r c hv' := by
  have := heap_at_setCell (j := 2) (u := hv') h
  simpa [BX] using this
theorem BX.other {w : World} {b : Nat} {r c : Int} {hv : Value} (h : BX w b r c hv) {p : Addr} (hp : p.block ≠ b) (u : Value) : BX (w.setCell p u) b r c hv := by
  exact (Below.heap_setCell w p u b (by omega)).trans h
theorem ret_pool {fn : Func} {p u : Tmp} (h : fn.results = #[.cell p 56, .tmp u]) (tmps : Array Value) (w : World) (b : Nat) (hp : tmps.getD p undef = .pointer (some ⟨b, 0, none⟩)) {r c : Int} {hv : Value} (hb : BX w b r c hv) (hs : ∃ a n k, hv = .slice a n k) :
    (results fn tmps).run Tryz.prog w = .ok (.tuple #[.agg #[.int .i64 r, .int .i64 c, hv], tmps.getD u undef]) w := by
  rw [results_cell_tmp h, hp]
  obtain ⟨a, n, k, rfl⟩ := hs
  have c0 := hb.c0
  have c1 := hb.c1
  have c2 := hb.c2
  go_simp
end Go.Proofs.YthaiopgmncnekaaGreatDoor
