/- slices.Equal of two lists of those who come that are one: true. No condition. -/
import Derived.Test.YtbhoagabbehafaaDoorPrint
set_option linter.unusedSimpArgs false
set_option linter.unusedVariables false
namespace Go.Proofs.YtbhoagabbehafaaDoor
open Go.RowKit
set_option maxHeartbeats 800000 in
set_option maxRecDepth 20000 in
theorem eqC_same (v u : Value) (zs : List (Int × Int)) (w : World) (hv : RdC w v zs) (hu : RdC w u zs) (hl : zs.length ≤ 1048577) :
    Calls Tryd.prog 11 #[v, u] w fun e w' => e = .returned (.bool true) ∧ Below w.heap.size w w' := by
  obtain ⟨a, cap, rfl, hc⟩ := hv
  obtain ⟨a', cap', rfl, hc'⟩ := hu
  have HC := Lib.hid hc
  have HC' := Lib.hid hc'
  obtain ⟨n, hn⟩ : ∃ n, zs.length = n := ⟨_, rfl⟩
  have HN := Lib.hid hn
  rw [hn] at hl ⊢
  clear hc hc' hn
  go_enter Tryd.func11, Tryd.ntmps11
  go_wp2_with fail
  go_loopw [13] (fun iv wr => ∃ (i : Nat), i ≤ n ∧ iv = .int .i64 i ∧ Hid (Below w.heap.size w wr)) (fun iv _ => n - (intOf iv).toNat)
  case atStart => exact ⟨0, Nat.zero_le _, rfl, Below.refl _ _⟩
  case round =>
    obtain ⟨i, hi, rfl, HB⟩ := hrel
    by_cases hlt : i < n
    · have hlt2 : (i : Int) < (n : Int) := by omega
      have hiz : i < zs.length := by rw [HN.out]; exact hlt
      have hne : zs ≠ [] := fun h => by rw [h] at hiz; cases hiz
      obtain ⟨g, off, rfl, hg, hcs⟩ := HC.out hne
      obtain ⟨g', off', rfl, hg', hcs'⟩ := HC'.out hne
      obtain ⟨c0, c1⟩ := hcs i hiz
      obtain ⟨c2, c3⟩ := hcs' i hiz
      obtain ⟨⟨x, d⟩, hp⟩ : ∃ p, zs.getD i (0, 0) = p := ⟨_, rfl⟩
      rw [hp] at c0 c1 c2 c3
      have C0 : wr.cell? ⟨g, off + i * 2, none⟩ = some (.int .i64 x) := (World.cell?_of_block (HB.out.block g hg)).trans c0
      have C1 : wr.cell? ⟨g, off + i * 2 + 1, none⟩ = some (.int .i64 d) := (World.cell?_of_block (HB.out.block g hg)).trans c1
      have C2 : wr.cell? ⟨g', off' + i * 2, none⟩ = some (.int .i64 x) := (World.cell?_of_block (HB.out.block g' hg')).trans c2
      have C3 : wr.cell? ⟨g', off' + i * 2 + 1, none⟩ = some (.int .i64 d) := (World.cell?_of_block (HB.out.block g' hg')).trans c3
      clear c0 c1 c2 c3 hcs hcs' hp hiz hne
      have q1 : (0 ≤ (i : Int) ∧ (i : Int) < (n : Int)) = True := eq_true ⟨Int.natCast_nonneg _, hlt2⟩
      have q2 : ((n : Int) ≤ (i : Int)) = False := eq_false (by omega)
      have q3 : (n ≤ i) = False := eq_false (by omega)
      go_wp2_with fail
      go_quiet (fail)
      go_wp2_with fail
      go_roundw
      case rel => exact ⟨i + 1, by omega, by go_num, HB.out.drewN _⟩
      case measure => simp [intOf]; omega
    · obtain rfl : i = n := by omega
      go_wp2_with fail
      go_ret
      exact ⟨rfl, HB.out⟩
end Go.Proofs.YtbhoagabbehafaaDoor
