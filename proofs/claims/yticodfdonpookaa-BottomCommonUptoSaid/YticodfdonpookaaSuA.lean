/- A row of words that is sorted in place: what stands in it; cmp.Less. No condition. -/
import Derived.Test.YticodfdonpookaaGen
import Derived.Sort.Grow
import Derived.Sort.AssemblyPlain
set_option linter.unusedSimpArgs false
set_option linter.unusedVariables false
set_option maxRecDepth 20000
namespace Go.Proofs.Yticodfdonpookaa.Su
open Go.RowKit Go.Sort
abbrev eu : Int → Value := Value.int .u64
/-- The row's cells hold d; all else is as it was, but for draws and new blocks. -/
def SU (w w' : World) (blk off : Nat) (d : Array Int) : Prop := ∃ n os, w' = grow (putRow eu (Sort.ahead w n) blk off d) os
theorem SU.refl {w : World} {blk off : Nat} {d : Array Int} (h : Holds eu w blk off d) : SU w w blk off d := ⟨0, #[], by rw [grow_empty, ahead_zero, putRow_self _ _ _ _ _ h]⟩
theorem SU.holds {w w' : World} {blk off : Nat} {d0 d : Array Int} (h : SU w w' blk off d) (h0 : Holds eu w blk off d0) (hs : d.size = d0.size) (hb : blk < w.heap.size) : Holds eu w' blk off d := by
  obtain ⟨n, os, rfl⟩ := h
  refine holds_grow _ _ _ _ _ _ ?_ (holds_putRow _ _ _ _ d0 _ (holds_ahead _ _ _ _ _ _ h0) hs)
  simpa [putRow, mapBlock] using hb
theorem SU.size {w w' : World} {blk off : Nat} {d : Array Int} (h : SU w w' blk off d) : w.heap.size ≤ w'.heap.size := by
  obtain ⟨n, os, rfl⟩ := h
  simp [putRow, mapBlock, Sort.ahead]
theorem SU.trans {w w1 w2 : World} {blk off : Nat} {d d' : Array Int} (h : SU w w1 blk off d) (h2 : SU w1 w2 blk off d') (hs : d'.size = d.size) (hb : blk < w.heap.size) : SU w w2 blk off d' := by
  obtain ⟨n, os, rfl⟩ := h
  obtain ⟨m, os', rfl⟩ := h2
  exact ⟨n + m, os ++ os', grow_step_grow _ _ _ _ _ _ _ _ _ _ hb hs⟩
theorem SU.drew {w w' : World} {blk off : Nat} {d : Array Int} (h : SU w w' blk off d) : SU w w'.drew blk off d := by
  obtain ⟨n, os, rfl⟩ := h
  exact ⟨n + 1, os, rfl⟩
theorem SU.drewN {w w' : World} {blk off : Nat} {d : Array Int} (h : SU w w' blk off d) (k : Nat) : SU w (w'.drewN k) blk off d := by
  obtain ⟨n, os, rfl⟩ := h
  exact ⟨n + k, os, by simp [World.drewN, grow, putRow, mapBlock, Sort.ahead, Nat.add_assoc]⟩
theorem SU.alloc {w w' : World} {blk off : Nat} {d : Array Int} (h : SU w w' blk off d) (o : Obj) : SU w (w'.alloc o) blk off d := by
  obtain ⟨n, os, rfl⟩ := h
  exact ⟨n, os ++ #[o], by rw [alloc_eq_grow, grow_grow]⟩
theorem SU.cell {w w' : World} {blk off : Nat} {d0 d : Array Int} (h : SU w w' blk off d) (h0 : Holds eu w blk off d0) (hs : d.size = d0.size) (hb : blk < w.heap.size) (j : Nat) (hj : j < d.size) : w'.cell? ⟨blk, off + j, none⟩ = some (.int .u64 d[j]!) ∧ w'.frozen? ⟨blk, off + j, none⟩ = false :=
  (h.holds h0 hs hb) j hj
theorem SU.swp {w w' : World} {blk off : Nat} {d : Array Int} (h : SU w w' blk off d) (hb : blk < w.heap.size) (i j : Nat) (hi : i < d.size) (hj : j < d.size) : SU w (((w'.setCell ⟨blk, off + i, none⟩ (.int .u64 d[j]!)).setCell ⟨blk, off + j, none⟩ (.int .u64 d[i]!))) blk off (Sort.swp d i j) := by
  obtain ⟨n, os, rfl⟩ := h
  refine ⟨n, os, ?_⟩
  rw [← putRow_swp eu (Sort.ahead w n) blk off d i j hi hj]
  have e : ∀ (W : World) (k : Nat) (v : Value), blk < W.heap.size → (grow W os).setCell ⟨blk, off + k, none⟩ v = grow (W.setCell ⟨blk, off + k, none⟩ v) os := fun W k v hW => by
    rw [setCell_eq, setCell_eq, mapBlock_grow _ _ _ _ hW]
  rw [e _ i _ (by simpa [putRow, mapBlock, Sort.ahead] using hb), e _ j _ (by simpa [putRow, mapBlock, Sort.ahead] using hb)]
theorem swp_size (d : Array Int) (i j : Nat) : (Sort.swp d i j).size = d.size := by simp [Sort.swp]
theorem nan_any (x : Int) (w : World) : Calls Try.prog 37 #[.int .u64 x] w fun e w' => e = .returned (.bool false) ∧ w' = w := by
  go_enter Try.func37, Try.ntmps37
  go_wp2
  go_ret
  exact ⟨by simp, rfl⟩
theorem less_any (x y : Int) (w : World) : Calls Try.prog 56 #[.int .u64 x, .int .u64 y] w fun e w' => e = .returned (.bool (Sort.ltInt x y)) ∧ w' = w := by
  go_enter Try.func56, Try.ntmps56
  go_wp2_with (go_at_call 37; refine (nan_any _ _).mono ?_; rintro e w' ⟨rfl, rfl⟩)
  go_ret
  exact ⟨rfl, rfl⟩
end Go.Proofs.Yticodfdonpookaa.Su
