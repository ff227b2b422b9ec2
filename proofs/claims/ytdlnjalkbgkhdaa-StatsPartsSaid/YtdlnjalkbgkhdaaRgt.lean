/- stats.Right, Spread, Join: what they answer. Condition: moments that may be. -/
import Derived.Test.YtdlnjalkbgkhdaaOf
set_option linter.unusedSimpArgs false
set_option linter.unusedVariables false
namespace Go.Proofs.Ytdlnjalkbgkhdaa
open Go.RowKit
theorem RightM.ss {n s q : Int} (h : RightM n s q) : 0 ≤ s * s ∧ n * q ≤ 1152921504606846976 ∧ 0 ≤ n * q := by
  obtain ⟨a, b, c, d, e, f, g, -⟩ := h
  have h1 : 0 ≤ s * s := by
    rcases Int.le_total 0 s with h | h
    · exact Int.mul_nonneg h h
    · exact Int.mul_nonneg_of_nonpos_of_nonpos h h
  have h2 : n * q ≤ 1024 * q := Int.mul_le_mul_of_nonneg_right b e
  exact ⟨h1, by omega, Int.mul_nonneg a e⟩
set_option maxHeartbeats 1600000 in
theorem right_any (n s q : Int) (w : World) (h : RightM n s q) : Calls Try.prog 16 #[mv n s q] w fun e w' => e = .returned (.bool true) ∧ Below w.heap.size w w' := by
  obtain ⟨b1, b2, b3⟩ := h.ss
  obtain ⟨a1, a2, a3, a4, a5, a6, a7, a8⟩ := h
  obtain ⟨ss, hss⟩ : ∃ ss, s * s = ss := ⟨_, rfl⟩
  obtain ⟨nq, hnq⟩ : ∃ nq, n * q = nq := ⟨_, rfl⟩
  rw [hss] at b1 a7
  rw [hnq] at b2 b3 a7
  have t1 : decide (n < 0) = false := decide_eq_false (by omega)
  have t2 : decide ((1024 : Int) < n) = false := decide_eq_false (by omega)
  have t3 : decide (s < -n * 1048576) = false := decide_eq_false (by omega)
  have t3' : decide (s < -(n * 1048576)) = false := decide_eq_false (by omega)
  have t4 : decide (n * 1048576 < s) = false := decide_eq_false (by omega)
  have t5 : decide (q < 0) = false := decide_eq_false (by omega)
  have t6 : decide (n * 1099511627776 < q) = false := decide_eq_false (by omega)
  have t6' : decide (n * 1048576 * 1048576 < q) = false := decide_eq_false (by omega)
  have t7 : decide (ss ≤ nq) = true := decide_eq_true a7
  have w0 : IntKind.i64.wrap (-n) = -n := by rw [IntKind.wrap_i64]; omega
  have w1 : IntKind.i64.wrap (-n * 1048576) = -n * 1048576 := by rw [IntKind.wrap_i64]; omega
  have w2 : IntKind.i64.wrap (n * 1048576) = n * 1048576 := by rw [IntKind.wrap_i64]; omega
  have w3 : IntKind.i64.wrap (n * 1048576 * 1048576) = n * 1048576 * 1048576 := by rw [IntKind.wrap_i64]; omega
  have w4 : IntKind.i64.wrap (s * s) = ss := by rw [IntKind.wrap_i64, hss]; omega
  have w5 : IntKind.i64.wrap (n * q) = nq := by rw [IntKind.wrap_i64, hnq]; omega
  have w6 : IntKind.i64.wrap (s - q) = s - q := by rw [IntKind.wrap_i64]; omega
  have w7 : (s - q).tmod 2 = 0 := by
    have : (2 : Int) ∣ s - q := Int.dvd_of_emod_eq_zero a8
    exact Int.tmod_eq_zero_of_dvd this
  clear hss hnq a7 a8
  unfold mv
  go_enter Try.func16, Try.ntmps16
  go_wp2_with fail
  go_ret
  exact ⟨rfl, (Below.refl _ _).alloc (Nat.le_refl _) _⟩
set_option maxHeartbeats 800000 in
theorem spread_any (n s q : Int) (w : World) (h : RightM n s q) : Calls Try.prog 11 #[mv n s q] w fun e w' => e = .returned (.tuple #[.int .i64 (n * q - s * s), .int .i64 0]) ∧ Below w.heap.size w w' := by
  obtain ⟨b1, b2, b3⟩ := h.ss
  have a7 := h.cs
  have HR := Lib.hid (right_any n s q (w.alloc (.cells #[.int .i64 n, .int .i64 s, .int .i64 q] 28)) h)
  obtain ⟨ss, hss⟩ : ∃ ss, s * s = ss := ⟨_, rfl⟩
  obtain ⟨nq, hnq⟩ : ∃ nq, n * q = nq := ⟨_, rfl⟩
  rw [hss] at b1 a7
  rw [hnq] at b2 b3 a7
  rw [hss, hnq]
  have w4 : IntKind.i64.wrap (s * s) = ss := by rw [IntKind.wrap_i64, hss]; omega
  have w5 : IntKind.i64.wrap (n * q) = nq := by rw [IntKind.wrap_i64, hnq]; omega
  have w6 : IntKind.i64.wrap (nq - ss) = nq - ss := by rw [IntKind.wrap_i64]; omega
  clear hss hnq h
  unfold mv at HR ⊢
  have HC : Hid (∀ w', Below (w.alloc (.cells #[.int .i64 n, .int .i64 s, .int .i64 q] 28)).heap.size (w.alloc (.cells #[.int .i64 n, .int .i64 s, .int .i64 q] 28)) w' → w'.cell? ⟨w.heap.size, 0, none⟩ = some (.int .i64 n) ∧ w'.cell? ⟨w.heap.size, 1, none⟩ = some (.int .i64 s) ∧ w'.cell? ⟨w.heap.size, 2, none⟩ = some (.int .i64 q)) := fun w' hb => by
    have h1 := (hb.block w.heap.size (by simp)).trans (heap_alloc_new w _)
    refine ⟨?_, ?_, ?_⟩ <;> (rw [cell_of_row _ _ _ _ 28 (0, 0) h1]; rfl)
  go_enter Try.func11, Try.ntmps11
  go_wp2_with fail
  refine HR.out.mono ?_
  rintro e w1 ⟨rfl, hb1⟩
  obtain ⟨c0, c1, c2⟩ := HC.out w1 hb1
  have HB1 : Hid (Below w.heap.size w w1) := ((Below.refl _ _).alloc (Nat.le_refl _) _).trans (hb1.mono (by simp))
  clear HR HC hb1
  go_wp2_with fail
  go_ret2
  exact ⟨rfl, HB1.out⟩
set_option maxHeartbeats 800000 in
theorem join_any (n s q n' s' q' : Int) (w : World) (h : RightM n s q) (h' : RightM n' s' q') (hn : n + n' ≤ 1024) : Calls Try.prog 19 #[mv n s q, mv n' s' q'] w fun e w' => e = .returned (.tuple #[mv (n + n') (s + s') (q + q'), .int .i64 0]) ∧ Below w.heap.size w w' := by
  have HR := Lib.hid h
  have HR' := Lib.hid h'
  obtain ⟨W, hW⟩ : ∃ W, (((w.alloc (.cells #[.int .i64 n, .int .i64 s, .int .i64 q] 28)).alloc (.cells #[.int .i64 n', .int .i64 s', .int .i64 q'] 28)).alloc (.cells #[.int .i64 0, .int .i64 0, .int .i64 0] 28)) = W := ⟨_, rfl⟩
  have HSZ : Hid (W.heap.size = w.heap.size + 1 + 1 + 1) := by show _ = _; rw [← hW]; simp
  have HBW : Hid (Below w.heap.size w W) := by
    show Below _ _ _
    rw [← hW]; exact ((((Below.refl _ _).alloc (Nat.le_refl _) _).alloc (by simp) _).alloc (by simp; omega) _)
  have HC : Hid (∀ w', Below W.heap.size W w' → (w'.cell? ⟨w.heap.size, 0, none⟩ = some (.int .i64 n) ∧ w'.cell? ⟨w.heap.size, 1, none⟩ = some (.int .i64 s) ∧ w'.cell? ⟨w.heap.size, 2, none⟩ = some (.int .i64 q)) ∧
      (w'.cell? ⟨w.heap.size + 1, 0, none⟩ = some (.int .i64 n') ∧ w'.cell? ⟨w.heap.size + 1, 1, none⟩ = some (.int .i64 s') ∧ w'.cell? ⟨w.heap.size + 1, 2, none⟩ = some (.int .i64 q'))) := fun w' hb => by
    have h1 : w'.heap[w.heap.size]? = some (.cells #[.int .i64 n, .int .i64 s, .int .i64 q] 28 (0, 0)) := by
      rw [hb.block w.heap.size (by rw [HSZ.out]; omega), ← hW]
      exact (Below.heap_alloc _ _ _ (by simp; omega)).trans ((Below.heap_alloc _ _ _ (by simp)).trans (heap_alloc_new w _))
    have h2 : w'.heap[w.heap.size + 1]? = some (.cells #[.int .i64 n', .int .i64 s', .int .i64 q'] 28 (0, 0)) := by
      rw [hb.block (w.heap.size + 1) (by rw [HSZ.out]; omega), ← hW]
      refine (Below.heap_alloc _ _ _ (by simp)).trans ?_
      have := heap_alloc_new (w.alloc (.cells #[.int .i64 n, .int .i64 s, .int .i64 q] 28)) (.cells #[.int .i64 n', .int .i64 s', .int .i64 q'] 28)
      simpa using this
    exact ⟨by refine ⟨?_, ?_, ?_⟩ <;> (rw [cell_of_row _ _ _ _ 28 (0, 0) h1]; rfl), by refine ⟨?_, ?_, ?_⟩ <;> (rw [cell_of_row _ _ _ _ 28 (0, 0) h2]; rfl)⟩
  obtain ⟨a1, a2, a3, a4, a5, a6, -, -⟩ := h
  obtain ⟨b1, b2, b3, b4, b5, b6, -, -⟩ := h'
  have w1 : IntKind.i64.wrap (n + n') = n + n' := by rw [IntKind.wrap_i64]; omega
  have w2 : IntKind.i64.wrap (s + s') = s + s' := by rw [IntKind.wrap_i64]; omega
  have w3 : IntKind.i64.wrap (q + q') = q + q' := by rw [IntKind.wrap_i64]; omega
  have t1 : decide ((1024 : Int) < n + n') = false := decide_eq_false (by omega)
  have HW := Lib.hid hW
  have HX := Lib.hid (right_any n s q W HR.out)
  have HX2 : Hid (∀ X, Below W.heap.size W X → Calls Try.prog 16 #[mv n' s' q'] X fun e w' => e = .returned (.bool true) ∧ Below X.heap.size X w') := fun X _ => right_any n' s' q' X HR'.out
  clear hW hn a1 a2 a3 a4 a5 a6 b1 b2 b3 b4 b5 b6 HR HR'
  unfold mv at HX HX2 ⊢
  obtain ⟨⟨c0, c1, c2⟩, ⟨c3, c4, c5⟩⟩ := HC.out W (Below.refl _ _)
  go_enter Try.func19, Try.ntmps19
  go_wp2_with fail
  rw [HW.out]
  refine HX.out.mono ?_
  rintro e w1 ⟨rfl, hb1⟩
  have HB1 := Lib.hid hb1
  have HX3 := Lib.hid (HX2.out w1 hb1)
  clear c0 c1 c2 c3 c4 c5
  obtain ⟨⟨c0, c1, c2⟩, ⟨c3, c4, c5⟩⟩ := HC.out w1 hb1
  clear hb1 HX HX2
  go_wp2_with fail
  refine HX3.out.mono ?_
  rintro e w2 ⟨rfl, hb2⟩
  have HB2 := Lib.hid (HB1.out.trans (hb2.mono HB1.out.size))
  clear c0 c1 c2 c3 c4 c5
  obtain ⟨⟨c0, c1, c2⟩, ⟨c3, c4, c5⟩⟩ := HC.out w2 HB2.out
  have HSZ2 : Hid (w.heap.size + 2 < w2.heap.size) := by have h1 := HB2.out.size; have h2 := HSZ.out; show _ < _; omega
  have HB3 : Hid (Below w.heap.size w w2) := HBW.out.trans (HB2.out.mono HBW.out.size)
  have HD : Hid (w2.cell? ⟨w.heap.size + 1 + 1, 0, none⟩ = some (.int .i64 0) ∧ w2.cell? ⟨w.heap.size + 1 + 1, 1, none⟩ = some (.int .i64 0) ∧ w2.cell? ⟨w.heap.size + 1 + 1, 2, none⟩ = some (.int .i64 0) ∧ w2.frozen? ⟨w.heap.size + 1 + 1, 0, none⟩ = false ∧ w2.frozen? ⟨w.heap.size + 1 + 1, 1, none⟩ = false ∧ w2.frozen? ⟨w.heap.size + 1 + 1, 2, none⟩ = false) := by
    have h1 : w2.heap[w.heap.size + 1 + 1]? = some (.cells #[.int .i64 0, .int .i64 0, .int .i64 0] 28 (0, 0)) := by
      rw [HB2.out.block (w.heap.size + 1 + 1) (by rw [HSZ.out]; omega), ← HW.out]
      have := heap_alloc_new ((w.alloc (.cells #[.int .i64 n, .int .i64 s, .int .i64 q] 28)).alloc (.cells #[.int .i64 n', .int .i64 s', .int .i64 q'] 28)) (.cells #[.int .i64 0, .int .i64 0, .int .i64 0] 28)
      simpa using this
    refine ⟨?_, ?_, ?_, ?_, ?_, ?_⟩
    all_goals first
      | (rw [cell_of_row _ _ _ _ 28 (0, 0) h1]; rfl)
      | simp [World.frozen?, h1]
  obtain ⟨d0, d1, d2, f0, f1, f2⟩ := HD.out
  have z1 : w.heap.size + 1 + 1 < w2.heap.size := HSZ2.out
  clear hb2 HX3 HC HD
  go_wp2_with fail
  refine bodyPost_ret (v := .tuple #[.agg #[.int .i64 (n + n'), .int .i64 (s + s'), .int .i64 (q + q')], .int .i64 0]) ?_ rfl ⟨rfl, ?_⟩
  · simp [results, Try.results19, go_sem, d0, d1, d2, z1]
  · refine Below.alloc ?_ ?_ _
    · exact ((HB3.out.setCell (by simp; omega) _).setCell (by simp; omega) _).setCell (by simp; omega) _
    · have := HB3.out.size; simpa using this
end Go.Proofs.Ytdlnjalkbgkhdaa
