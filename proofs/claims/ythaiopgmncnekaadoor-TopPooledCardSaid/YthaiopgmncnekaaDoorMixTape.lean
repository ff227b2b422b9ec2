/- Walk of mixer.Bits, two thousand bits. No condition. -/
import Derived.Test.YthaiopgmncnekaaDoorMixWords
import Derived.Test.YthaiopgmncnekaaDoorMixSeed
import Derived.Test.YthaiopgmncnekaaDoorTapeBl
set_option linter.unusedSimpArgs false
set_option linter.unusedVariables false
set_option maxRecDepth 20000
namespace Go.Proofs.YthaiopgmncnekaaDoor.Mix
open Go.RowKit
open Go.Proofs.YthaiopgmncnekaaDoor.Tape (RdB)
theorem outs_get (s : S) : ∀ n k, k < n → ∃ x : BitVec 64, (outs s n)[k]? = some (.int .u64 (U x))
  | n + 1, k, h => by
    show ∃ x : BitVec 64, (outs s n ++ [.int .u64 (U (out (stN s n)))])[k]? = _
    by_cases e : k < n
    · obtain ⟨x, hx⟩ := outs_get s n k e
      exact ⟨x, by rw [List.getElem?_append_left (by rw [outs_len]; exact e)]; exact hx⟩
    · obtain rfl : k = n := by omega
      exact ⟨_, by rw [List.getElem?_append_right (by rw [outs_len]; exact Nat.le_refl _), outs_len, Nat.sub_self]; rfl⟩
theorem max2_run (a b : Int) (w : World) : (Builtin.max_ #[3, 3] 3 #[.int .i64 a, .int .i64 b]).run Tryd.prog w = .ok (.int .i64 (max a b)) w := by
  have h2 : ∀ (x y : Int) (w : World), (Builtin.max2 (.int .i64 x) (.int .i64 y)).run Tryd.prog w = .ok (.int .i64 (max x y)) w := fun x y w => by
    have e : (if x < y then y else x) = max x y := by split <;> omega
    simp [Builtin.max2, e]
  simp [Builtin.max_, List.foldlM, h2, Sem.run_bind, Result.andThen]
theorem Tryd.info4b : (Tryd.prog.info? 4).map (fun i => (i.zero, i.size, i.bytes)) = some (some (.bool false), 1, 1) := by kernel_rfl
theorem words_s (s : S) (w : World) : Calls Tryd.prog 45 #[.agg #[.int .u64 (U s.a), .int .u64 (U s.b), .int .u64 (U s.c), .int .u64 (U s.d)], .int .i64 32] w fun e w' => ∃ g cap a b c d, e = .returned (.tuple #[.slice (some ⟨g, 0, none⟩) 32 cap, .agg #[.int .u64 (U a), .int .u64 (U b), .int .u64 (U c), .int .u64 (U d)], .int .i64 0]) ∧ w.heap.size ≤ g ∧ g < w'.heap.size ∧ (∀ k, k < 32 → ∃ x : BitVec 64, w'.cell? ⟨g, k, none⟩ = some (.int .u64 (U x))) ∧ Below w.heap.size w w' := by
  refine (words_any s 32 (by decide) w).mono ?_
  rintro e w' ⟨v, rfl, ho, hb⟩
  obtain ⟨g, cap, rfl, h4, h5, h6, h7, h8⟩ := own_open ho (by decide)
  refine ⟨g, cap, _, _, _, _, rfl, by omega, h7, fun k hk => ?_, hb⟩
  obtain ⟨x, hx⟩ := outs_get s 32 k hk
  exact ⟨x, h8 k _ hx⟩
set_option maxHeartbeats 1600000 in
theorem bits_any (s : S) (w : World) : Calls Tryd.prog 25 #[s.v, .int .i64 2000] w fun e w' => ∃ v a b c d, ∃ zs : List Bool, e = .returned (.tuple #[v, .agg #[.int .u64 a, .int .u64 b, .int .u64 c, .int .u64 d], .int .i64 0]) ∧ zs.length = 2000 ∧ RdB w' v zs ∧ Below w.heap.size w w' := by
  obtain ⟨i0, hi, hz0, hz1, hz2⟩ := info_parts Tryd.info4b
  have HW := Lib.hid (fun w => words_s s w)
  have hmx : ∀ w : World, (Builtin.max_ #[3, 3] 3 #[.int .i64 2000, .int .i64 (-1)]).run Tryd.prog w = .ok (.int .i64 2000) w := fun w => max2_run 2000 (-1) w
  unfold S.v
  generalize U s.a = a at *
  generalize U s.b = b at *
  generalize U s.c = c at *
  generalize U s.d = d at *
  go_enter Tryd.func25, Tryd.ntmps25
  go_wp2_with fail
  refine (HW.out _).mono ?_
  rintro e w2 ⟨g, cap, a', b', c', d', rfl, hg1, hg2, hcell, hb⟩
  have HBW : Hid (Below w.heap.size w w2) := (((Below.refl w.heap.size w).alloc (Nat.le_refl _) _).alloc (by simp) _).trans (hb.mono (by simp; omega))
  have hz : ZBox w2 (w.heap.size + 1) := by
    unfold ZBox
    rw [hb.block _ (by simp)]
    have := heap_alloc_new (w.alloc (Obj.cells #[Value.int IntKind.u64 a, Value.int IntKind.u64 b, Value.int IntKind.u64 c, Value.int IntKind.u64 d] 59)) (Obj.cells #[Value.int IntKind.u64 0, Value.int IntKind.u64 0, Value.int IntKind.u64 0, Value.int IntKind.u64 0] 59)
    simpa using this
  have HZ := Lib.hid hz
  have HC := Lib.hid hcell
  have hs2 : w.heap.size + 2 ≤ w2.heap.size := by have := hb.size; simpa using this
  generalize U a' = a' at *
  generalize U b' = b' at *
  generalize U c' = c' at *
  generalize U d' = d' at *
  clear hb hcell HW hz hmx
  go_wp2_with fail
  go_loopw [34, 10] (fun iv v wr => ∃ (k : Nat) (zs : List Bool), k ≤ 2000 ∧ iv = .int .i64 k ∧ Hid (zs.length = k) ∧ Hid (wr.ownsRow (w2.heap.size + 1) 4 1 v k (zs.map Value.bool)) ∧ Hid (Below (w2.heap.size + 1) (w2.alloc (.cells #[.int .u64 a', .int .u64 b', .int .u64 c', .int .u64 d'] 59)) wr)) (fun iv _ _ => 2000 - (intOf iv).toNat)
  case atStart => exact ⟨0, [], by decide, rfl, rfl, World.ownsRow_nil _ _ _ _, Below.refl _ _⟩
  case round =>
    obtain ⟨k, zs, hk, rfl, HL, HO, HB⟩ := hrel
    have hsz := HB.out.size
    have hsz1 : w2.heap.size + 1 ≤ wr.heap.size := by simpa using hsz
    have hin : ∀ b0, b0 < w2.heap.size → wr.heap[b0]? = w2.heap[b0]? := fun b0 h => (HB.out.block b0 (by omega)).trans (Below.heap_alloc _ _ _ (by show b0 < _; omega))
    by_cases hlt : k < 2000
    · obtain ⟨x, hx⟩ := HC.out (k / 64) (by omega)
      have hx' : wr.cell? ⟨g, k / 64, none⟩ = some (.int .u64 (U x)) := (World.cell?_of_block (hin g hg2)).trans hx
      have hlt2 : (k : Int) < 2000 := by omega
      have r1 : ((k : Int) / 64) = ((k / 64 : Nat) : Int) := by omega
      have r2 : k / 64 < 32 := by omega
      have r3 : ((k : Int) % 64) = ((k % 64 : Nat) : Int) := by omega
      have r4 : k % 64 < 64 := by omega
      obtain ⟨y, hy⟩ : ∃ y, U x = y := ⟨_, rfl⟩
      rw [hy] at hx'
      clear hx hy hin
      generalize k / 64 = q at *
      generalize k % 64 = m at *
      go_wp2_with (at_builtin; go_must (refine push rfl _ _ 57 rfl (w2.heap.size + 1) 4 i0 (.bool false) 1 Tryd.underlying57 hi hz0 hz1 hz2 rfl _ k (zs.map Value.bool) rfl HO.out (.bool _) wr.heap.size rfl rfl rfl (by decide) (by omega) hsz1 ?_))
      intro v3 w3 ho3 hg3
      obtain ⟨B, ho3⟩ : ∃ B : Bool, w3.ownsRow (w2.heap.size + 1) 4 1 v3 (k + 1) (zs.map Value.bool ++ [.bool B]) := ⟨_, ho3⟩
      have HO3 : Hid (w3.ownsRow (w2.heap.size + 1) 4 1 v3 (k + 1) ((zs ++ [B]).map Value.bool)) := by
        show World.ownsRow _ _ _ _ _ _ _
        rw [List.map_append]; exact ho3
      have HB3 := Lib.hid (grown_below hg3 HO.out HB.out (by simp) hsz1)
      clear ho3 hg3
      go_wp2_with fail
      go_roundw
      case rel => exact ⟨k + 1, zs ++ [B], by omega, by go_num, by show _ = _; rw [List.length_append, HL.out]; rfl, HO3.out, HB3.out⟩
      case measure => simp [intOf]; omega
    · obtain rfl : k = 2000 := by omega
      obtain ⟨z0, z1, z2, z3, g0, g1, g2, g3⟩ := (show ZBox wr (w.heap.size + 1) from (hin _ (by omega)).trans HZ.out).cells
      have hbx : wr.heap[w2.heap.size]? = some (.cells #[.int .u64 a', .int .u64 b', .int .u64 c', .int .u64 d'] 59 (0, 0)) := (HB.out.block _ (by omega)).trans (heap_alloc_new _ _)
      have e0 : wr.cell? ⟨w2.heap.size, 0, none⟩ = some (.int .u64 a') := by rw [cell_of_row _ _ _ _ _ _ hbx]; rfl
      have e1 : wr.cell? ⟨w2.heap.size, 1, none⟩ = some (.int .u64 b') := by rw [cell_of_row _ _ _ _ _ _ hbx]; rfl
      have e2 : wr.cell? ⟨w2.heap.size, 2, none⟩ = some (.int .u64 c') := by rw [cell_of_row _ _ _ _ _ _ hbx]; rfl
      have e3 : wr.cell? ⟨w2.heap.size, 3, none⟩ = some (.int .u64 d') := by rw [cell_of_row _ _ _ _ _ _ hbx]; rfl
      have HR : Hid (RdB wr u10 zs) := RdB.own HO.out
      have HBE : Hid (Below w.heap.size w wr) := (HBW.out.alloc (by omega) _).trans (HB.out.mono (by omega))
      clear hin hbx
      go_wp2_with fail
      go_region
      go_wp2_with fail
      refine bodyPost_ret (v := .tuple #[u10, .agg #[.int .u64 a', .int .u64 b', .int .u64 c', .int .u64 d'], .int .i64 0]) (by simp [results, Tryd.results25, go_sem, cell_set_self, z0, z1, z2, z3]) rfl ⟨_, _, _, _, _, zs, rfl, HL.out, ?_, ?_⟩
      · exact RdB.own (own_drew (own_store (own_store (own_store (own_store HO.out (by show w.heap.size + 1 < _; omega) _) (by show w.heap.size + 1 < _; omega) _) (by show w.heap.size + 1 < _; omega) _) (by show w.heap.size + 1 < _; omega) _))
      · exact ((((HBE.out.setCell (by show w.heap.size ≤ w.heap.size + 1; omega) _).setCell (by show w.heap.size ≤ w.heap.size + 1; omega) _).setCell (by show w.heap.size ≤ w.heap.size + 1; omega) _).setCell (by show w.heap.size ≤ w.heap.size + 1; omega) _).drew
end Go.Proofs.YthaiopgmncnekaaDoor.Mix
