/- xorshift.Next, nextPowerOfTwo: a word; a power of two. No condition. -/
import Derived.Test.YticodfdonpookaaSuPiv
import Derived.Test.YticodfdonpookaaLen
import Derived.Lib.ItoaNum
import Derived.Laws.Bits64b
import Derived.Laws.Closers25b
import Derived.Deep.RegionHeld
set_option linter.unusedSimpArgs false
set_option linter.unusedVariables false
set_option maxRecDepth 20000
namespace Go.Proofs.Yticodfdonpookaa.Su
open Go.RowKit Go.Sort
/-- The row is sorted in place; in a new block B stands a word x. -/
def XV (w0 w : World) (blk off : Nat) (d : Array Int) (B x : Nat) : Prop := SU w0 w blk off d ∧ w0.heap.size ≤ B ∧ w.cell? ⟨B, 0, none⟩ = some (.int .u64 (x : Int)) ∧ w.frozen? ⟨B, 0, none⟩ = false ∧ x < 18446744073709551616
theorem XV.put {w0 w : World} {blk off B x : Nat} {d : Array Int} (h : XV w0 w blk off d B x) (y : Nat) (hy : y < 18446744073709551616) : XV w0 (w.setCell ⟨B, 0, none⟩ (.int .u64 (y : Int))) blk off d B y := by
  obtain ⟨⟨n, os, rfl⟩, h2, h3, h4, h5⟩ := h
  refine ⟨?_, h2, ?_, ?_, hy⟩
  · rw [setCell_eq, mapBlock_grow_new _ _ _ _ (by simpa [putRow, mapBlock, Sort.ahead] using h2)]
    exact ⟨n, _, rfl⟩
  · have := cell_set_self (w := grow (putRow eu (Sort.ahead w0 n) blk off d) os) (p := ⟨B, 0, none⟩) (v := .int .u64 (y : Int)) (by rw [h3]; rfl)
    exact this
  · rw [setCell_eq, frozen?_mapBlock]; exact h4
theorem XV.drew {w0 w : World} {blk off B x : Nat} {d : Array Int} (h : XV w0 w blk off d B x) : XV w0 w.drew blk off d B x := ⟨h.1.drew, h.2.1, h.2.2.1, h.2.2.2.1, h.2.2.2.2⟩
theorem XV.swp {w0 w : World} {blk off B x : Nat} {d : Array Int} (h : XV w0 w blk off d B x) (hb : blk < w0.heap.size) (i j : Nat) (hi : i < d.size) (hj : j < d.size) : XV w0 ((w.setCell ⟨blk, off + i, none⟩ (.int .u64 d[j]!)).setCell ⟨blk, off + j, none⟩ (.int .u64 d[i]!)) blk off (Sort.swp d i j) B x := by
  have hne : blk ≠ B := by have := h.2.1; omega
  refine ⟨h.1.swp hb i j hi hj, h.2.1, ?_, ?_, h.2.2.2.2⟩
  · rw [World.cell?_setCell_far _ _ _ _ hne, World.cell?_setCell_far _ _ _ _ hne]; exact h.2.2.1
  · rw [setCell_eq, frozen?_mapBlock, setCell_eq, frozen?_mapBlock]; exact h.2.2.2.1
theorem bits_word (op : BinOp) (a b : Int) : ∃ y : Nat, bits op .u64 a b = (y : Int) ∧ y < 18446744073709551616 := by
  have h1 := bits_lo_u64 op a b
  have h2 := bits_hi_u64 op a b
  exact ⟨(bits op .u64 a b).toNat, by omega, by omega⟩
set_option maxHeartbeats 1600000 in
theorem next_any (blk off : Nat) (d : Array Int) (B x : Nat) (w0 w : World) (h : XV w0 w blk off d B x) :
    Calls Try.prog 61 #[.pointer (some ⟨B, 0, none⟩)] w fun e w' => ∃ y : Nat, e = .returned (.int .u64 (y : Int)) ∧ y < 18446744073709551616 ∧ XV w0 w' blk off d B y := by
  have H := Lib.hid h
  have c0 := h.2.2.1
  have f0 := h.2.2.2.1
  clear h
  go_enter Try.func61, Try.ntmps61
  go_wp2_with fail
  go_region
  obtain ⟨y, hy, hyl⟩ := bits_word .xor x (IntKind.u64.wrap ((x : Int) * 8192))
  rw [hy]
  have H1 := Lib.hid (H.out.put y hyl).drew
  clear hy c0 f0 H
  generalize World.drew _ = w1 at *
  have c0 := H1.out.2.2.1
  have f0 := H1.out.2.2.2.1
  go_wp2_with fail
  go_region
  obtain ⟨z, hz, hzl⟩ := bits_word .xor y ((y : Int) / 128)
  rw [hz]
  have H2 := Lib.hid (H1.out.put z hzl).drew
  clear hz c0 f0 H1
  generalize World.drew _ = w2 at *
  have c0 := H2.out.2.2.1
  have f0 := H2.out.2.2.2.1
  go_wp2_with fail
  go_region
  obtain ⟨u, hu, hul⟩ := bits_word .xor z (IntKind.u64.wrap ((z : Int) * 131072))
  rw [hu]
  have H3 := Lib.hid (H2.out.put u hul).drew
  clear hu c0 f0 H2
  generalize World.drew _ = w3 at *
  have c0 := H3.out.2.2.1
  have f0 := H3.out.2.2.2.1
  go_wp2_with fail
  go_ret
  exact ⟨u, rfl, hul, H3.out⟩
theorem pow_any (n : Nat) (w : World) (h1 : 1 ≤ n) (h2 : n < 4611686018427387904) :
    Calls Try.prog 60 #[.int .i64 (n : Int)] w fun e w' => (∃ M : Nat, e = .returned (.int .u64 (M : Int)) ∧ 1 ≤ M ∧ M ≤ 2 * n) ∧ w' = w := by
  have HC : Hid (∀ W, Calls Try.prog 36 #[.int .u64 (n : Int)] W fun e w' => e = .returned (.int .i64 (Lib.bitLen n : Nat)) ∧ w' = W) := fun W => Try.bits_Len (n : Int) W (by omega) (by omega)
  obtain ⟨k1, k2, k3⟩ := Lib.bitLenAux_bounds 64 n (by omega) (by omega)
  have hk : Lib.bitLen n ≤ 62 := Lib.bitLen_le n 62 (by omega) (by omega)
  have hM : 2 ^ Lib.bitLen n ≤ 2 * n ∧ 1 ≤ 2 ^ Lib.bitLen n := by
    refine ⟨?_, Nat.two_pow_pos _⟩
    have : Lib.bitLen n = (Lib.bitLen n - 1) + 1 := by unfold Lib.bitLen at *; omega
    rw [this, Nat.pow_succ]
    unfold Lib.bitLen
    omega
  clear k1 k2 k3
  generalize Lib.bitLen n = k at *
  obtain ⟨M, hMk⟩ : ∃ M, 2 ^ k = M := ⟨_, rfl⟩
  have wn : IntKind.u64.wrap (n : Int) = (n : Int) := by rw [IntKind.wrap_u64]; omega
  go_enter Try.func60, Try.ntmps60
  go_wp2_with fail
  refine (HC.out _).mono ?_
  rintro e w' ⟨rfl, rfl⟩
  go_wp2_with fail
  have e2 : (2 : Int) ^ k = (M : Int) := by rw [← hMk]; simp
  rw [hMk] at hM
  clear hMk
  have e3 : IntKind.u64.wrap (M : Int) = (M : Int) := by rw [IntKind.wrap_u64]; omega
  go_ret
  refine ⟨⟨M, ?_, hM.2, hM.1⟩, rfl⟩
  rw [e2, e3]; rfl
end Go.Proofs.Yticodfdonpookaa.Su
