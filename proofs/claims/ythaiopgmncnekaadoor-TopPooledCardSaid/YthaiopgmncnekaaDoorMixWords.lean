/- Walk of mixer.Words. No condition. -/
import Derived.Test.YthaiopgmncnekaaDoorMixWlk
import Derived.Test.YthaiopgmncnekaaDoorGen
import Derived.OneCell
import Derived.Lib.Hide
import Derived.Laws.Tables
set_option linter.unusedSimpArgs false
set_option linter.unusedVariables false
set_option maxRecDepth 20000
namespace Go.Proofs.YthaiopgmncnekaaDoor.Mix
open Go.RowKit

theorem Tryd.info54 : (Tryd.prog.info? 54).map (fun i => (i.zero, i.size, i.bytes)) = some (some (.int .u64 0), 1, 8) := by kernel_rfl

def stN (s : S) : Nat → S
  | 0 => s
  | n + 1 => step (stN s n)
def outs (s : S) : Nat → List Value
  | 0 => []
  | n + 1 => outs s n ++ [.int .u64 (U (out (stN s n)))]
theorem outs_len (s : S) (n : Nat) : (outs s n).length = n := by induction n with
  | zero => rfl
  | succ n ih => simp [outs, ih]

def Box (w : World) (b : Nat) (s : S) : Prop := w.heap[b]? = some (.cells #[.int .u64 (U s.a), .int .u64 (U s.b), .int .u64 (U s.c), .int .u64 (U s.d)] 59 (0, 0))
theorem Box.cells {w : World} {b : Nat} {s : S} (h : Box w b s) :
    w.cell? ⟨b, 0, none⟩ = some (.int .u64 (U s.a)) ∧ w.cell? ⟨b, 1, none⟩ = some (.int .u64 (U s.b)) ∧ w.cell? ⟨b, 2, none⟩ = some (.int .u64 (U s.c)) ∧ w.cell? ⟨b, 3, none⟩ = some (.int .u64 (U s.d)) :=
  ⟨by rw [cell_of_row _ _ _ _ _ _ h]; rfl, by rw [cell_of_row _ _ _ _ _ _ h]; rfl, by rw [cell_of_row _ _ _ _ _ _ h]; rfl, by rw [cell_of_row _ _ _ _ _ _ h]; rfl⟩
theorem Box.free {w : World} {b : Nat} {s : S} (h : Box w b s) (j : Nat) : w.frozen? ⟨b, j, none⟩ = false := frozen_of_row _ _ _ _ _ h
theorem Box.below {w w' : World} {b B : Nat} {s : S} (h : Box w b s) (hb : Below B w w') (hB : b < B) : Box w' b s := by
  unfold Box; rw [hb.block _ hB]; exact h

theorem Box.store {w : World} {b : Nat} {s : S} (t : S) (h : Box w b s) :
    Box ((((w.setCell ⟨b, 0, none⟩ (.int .u64 (U t.a))).setCell ⟨b, 1, none⟩ (.int .u64 (U t.b))).setCell ⟨b, 2, none⟩ (.int .u64 (U t.c))).setCell ⟨b, 3, none⟩ (.int .u64 (U t.d))) b t := by
  unfold Box at h ⊢
  rw [heap_at_setCell (heap_at_setCell (heap_at_setCell (heap_at_setCell h)))]
  rfl
def ZBox (w : World) (b : Nat) : Prop := w.heap[b]? = some (.cells #[.int .u64 0, .int .u64 0, .int .u64 0, .int .u64 0] 59 (0, 0))
attribute [local go_sem] S.v
theorem step_s (s : S) (w : World) :
    Calls Tryd.prog 52 #[.agg #[.int .u64 (U s.a), .int .u64 (U s.b), .int .u64 (U s.c), .int .u64 (U s.d)]] w fun e w' => e = .returned (.tuple #[.int .u64 (U (out s)), .agg #[.int .u64 (U (step s).a), .int .u64 (U (step s).b), .int .u64 (U (step s).c), .int .u64 (U (step s).d)]]) ∧ Below w.heap.size w w' := step_any s.a s.b s.c s.d w

def ZBoxC (w : World) (b : Nat) : Prop := w.cell? ⟨b, 0, none⟩ = some (.int .u64 0) ∧ w.cell? ⟨b, 1, none⟩ = some (.int .u64 0) ∧ w.cell? ⟨b, 2, none⟩ = some (.int .u64 0) ∧ w.cell? ⟨b, 3, none⟩ = some (.int .u64 0) ∧
  w.frozen? ⟨b, 0, none⟩ = false ∧ w.frozen? ⟨b, 1, none⟩ = false ∧ w.frozen? ⟨b, 2, none⟩ = false ∧ w.frozen? ⟨b, 3, none⟩ = false
theorem ZBox.cells {w : World} {b : Nat} (h : ZBox w b) : ZBoxC w b := by
  unfold ZBox at h
  exact ⟨by rw [cell_of_row _ _ _ _ _ _ h]; rfl, by rw [cell_of_row _ _ _ _ _ _ h]; rfl, by rw [cell_of_row _ _ _ _ _ _ h]; rfl, by rw [cell_of_row _ _ _ _ _ _ h]; rfl,
    frozen_of_row _ _ _ _ _ h, frozen_of_row _ _ _ _ _ h, frozen_of_row _ _ _ _ _ h, frozen_of_row _ _ _ _ _ h⟩

set_option maxHeartbeats 400000 in
theorem words_any (s : S) (n : Nat) (hn : n ≤ 10000) (w : World) :
    Calls Tryd.prog 45 #[s.v, .int .i64 n] w fun e w' => ∃ v, e = .returned (.tuple #[v, (stN s n).v, .int .i64 0]) ∧ w'.ownsRow (w.heap.size + 2) 54 1 v n (outs s n) ∧ Below w.heap.size w w' := by
  obtain ⟨i0, hi, hz0, hz1, hz2⟩ := info_parts Tryd.info54
  have hn0 : ¬ ((n : Int) < 0) := by omega
  have hn1 : ¬ ((10000 : Int) < n) := by omega
  unfold S.v
  go_enter Tryd.func45, Tryd.ntmps45
  go_wp2_with fail
  go_loopw [7, 17] (fun v i wr => ∃ k : Nat, k ≤ n ∧ i = .int .i64 k ∧ wr.ownsRow (w.heap.size + 2) 54 1 v k (outs s k) ∧ Box wr w.heap.size (stN s k) ∧ ZBox wr (w.heap.size + 1) ∧ Below w.heap.size w wr ∧ w.heap.size + 2 ≤ wr.heap.size)
    (fun _ i _ => n - (intOf i).toNat)
  case atStart =>
    refine ⟨0, Nat.zero_le _, rfl, World.ownsRow_nil _ _ _ _, ?_, ?_, ((Below.refl _ _).alloc (Nat.le_refl _) _).alloc (by simp) _, by simp⟩
    · unfold Box; rw [Below.heap_alloc _ _ _ (by simp)]; exact heap_alloc_new _ _
    · unfold ZBox
      have := heap_alloc_new (w.alloc (Obj.cells #[Value.int IntKind.u64 (U s.a), Value.int IntKind.u64 (U s.b), Value.int IntKind.u64 (U s.c), Value.int IntKind.u64 (U s.d)] 59)) (Obj.cells #[Value.int IntKind.u64 0, Value.int IntKind.u64 0, Value.int IntKind.u64 0, Value.int IntKind.u64 0] 59)
      simpa using this
  case round =>
    obtain ⟨k, hk, rfl, hown, hbox, hz, hbel, hsz⟩ := hrel
    obtain ⟨c0, c1, c2, c3⟩ := hbox.cells
    by_cases hlt : k < n
    · go_wp2_with fail
      refine (step_s (stN s k) _).mono ?_
      rintro e w1 ⟨rfl, hb1⟩
      have hbox1 := hbox.below hb1 (by omega)
      obtain ⟨d0, d1, d2, d3⟩ := hbox1.cells
      have f0 := hbox1.free 0
      have f1 := hbox1.free 1
      have f2 := hbox1.free 2
      have f3 := hbox1.free 3
      clear c0 c1 c2 c3
      have HB := Lib.hid hbox1; clear hbox1
      have hs1 := hb1.size
      have hown1 := own_below hown hb1 (Nat.le_refl _)
      go_wp2_with (at_builtin; go_must (refine push rfl _ _ 86 rfl (w.heap.size + 2) 54 i0 (.int .u64 0) 8 Tryd.underlying86 hi hz0 hz1 hz2 rfl _ k (outs s k) rfl ?hown (.int .u64 (U (out (stN s k)))) _ rfl ?hx rfl (by decide) ?hk ?hbs ?_))
      case hown => exact own_store (own_store (own_store (own_store hown1 (by show w.heap.size < _; omega) _) (by show w.heap.size < _; omega) _) (by show w.heap.size < _; omega) _) (by show w.heap.size < _; omega) _
      case hx => simp
      case hk => omega
      case hbs => simp; omega
      intro v' w2 hown2 hg
      have hown3 := own_store (own_store (own_store (own_store hown1 (by show w.heap.size < w.heap.size + 2; omega) (.int .u64 (U (step (stN s k)).a)) (a := ⟨w.heap.size, 0, none⟩)) (a := ⟨w.heap.size, 1, none⟩) (by show w.heap.size < w.heap.size + 2; omega) (.int .u64 (U (step (stN s k)).b))) (a := ⟨w.heap.size, 2, none⟩) (by show w.heap.size < w.heap.size + 2; omega) (.int .u64 (U (step (stN s k)).c))) (a := ⟨w.heap.size, 3, none⟩) (by show w.heap.size < w.heap.size + 2; omega) (.int .u64 (U (step (stN s k)).d))
      have hboxs := HB.out.store (step (stN s k))
      have R1 : Box w2 w.heap.size (stN s (k + 1)) := by
        unfold Box; rw [grown_block hg hown3 (by omega) (by simp; omega)]; exact hboxs
      have R2 : ZBox w2 (w.heap.size + 1) := by
        unfold ZBox; rw [grown_block hg hown3 (by omega) (by simp; omega)]
        rw [Below.heap_setCell _ _ _ _ (by simp), Below.heap_setCell _ _ _ _ (by simp), Below.heap_setCell _ _ _ _ (by simp), Below.heap_setCell _ _ _ _ (by simp), hb1.block _ (by omega)]
        exact hz
      have R3 : Below w.heap.size w w2 := by
        refine grown_below hg hown3 ?_ (by omega) (by simp; omega)
        exact ((((hbel.trans (hb1.mono (by omega))).setCell (Nat.le_refl _) _).setCell (Nat.le_refl _) _).setCell (Nat.le_refl _) _).setCell (Nat.le_refl _) _
      have R4 := grown_size hg
      simp at R4
      clear hg hown3 hboxs d0 d1 d2 d3 f0 f1 f2 f3 hown hown1 hbel hb1 HB
      go_wp2_with fail
      go_roundw
      case rel => exact ⟨k + 1, by omega, by go_num, hown2, R1, R2, R3, by omega⟩
      case measure => simp [intOf]; omega
    · obtain rfl : k = n := by omega
      obtain ⟨z0, z1, z2, z3, g0, g1, g2, g3⟩ := hz.cells
      go_wp2_with fail
      go_region
      go_wp2_with fail
      refine bodyPost_ret (v := .tuple #[u7, .agg #[.int .u64 (U (stN s k).a), .int .u64 (U (stN s k).b), .int .u64 (U (stN s k).c), .int .u64 (U (stN s k).d)], .int .i64 0]) (by simp [results, Tryd.results45, go_sem, cell_set_self, z0, z1, z2, z3]) rfl ⟨_, rfl, ?_, ?_⟩
      · exact own_drew (own_store (own_store (own_store (own_store hown (by show w.heap.size + 1 < _; omega) _) (by show w.heap.size + 1 < _; omega) _) (by show w.heap.size + 1 < _; omega) _) (by show w.heap.size + 1 < _; omega) _)
      · exact ((((hbel.setCell (by show w.heap.size ≤ w.heap.size + 1; omega) _).setCell (by show w.heap.size ≤ w.heap.size + 1; omega) _).setCell (by show w.heap.size ≤ w.heap.size + 1; omega) _).setCell (by show w.heap.size ≤ w.heap.size + 1; omega) _).drew
end Go.Proofs.YthaiopgmncnekaaDoor.Mix
