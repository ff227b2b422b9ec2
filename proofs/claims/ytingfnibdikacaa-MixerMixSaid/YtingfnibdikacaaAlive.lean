/- Walk of alive13. No condition. -/
import Derived.Test.YtingfnibdikacaaWords
import Derived.Handy
set_option linter.unusedSimpArgs false
set_option linter.unusedVariables false
namespace Go.Proofs.Ytingfnibdikacaa
open Go.RowKit
theorem step_1 (w : World) : Calls Try.prog 10 #[.agg #[.int .u64 1, .int .u64 2, .int .u64 3, .int .u64 4]] w fun e w' =>
    e = .returned (.tuple #[.int .u64 11520, .agg #[.int .u64 7, .int .u64 0, .int .u64 262146, .int .u64 211106232532992]]) ∧ Below w.heap.size w w' := by
  have h := step_any 1 2 3 4 w
  have e : (Value.tuple #[.int .u64 (U (out ⟨1, 2, 3, 4⟩)), (step ⟨1, 2, 3, 4⟩).v]) = .tuple #[.int .u64 11520, .agg #[.int .u64 7, .int .u64 0, .int .u64 262146, .int .u64 211106232532992]] := by kernel_rfl
  rw [e] at h
  exact h
theorem step_2 (w : World) : ∃ a b c d, Calls Try.prog 10 #[.agg #[.int .u64 7, .int .u64 0, .int .u64 262146, .int .u64 211106232532992]] w fun e w' =>
    e = .returned (.tuple #[.int .u64 0, .agg #[.int .u64 a, .int .u64 b, .int .u64 c, .int .u64 d]]) ∧ Below w.heap.size w w' := by
  have h := step_any 7 0 262146 211106232532992 w
  have e : out ⟨7, 0, 262146, 211106232532992⟩ = 0 := by decide +kernel
  rw [e] at h
  exact ⟨_, _, _, _, h⟩
theorem words_1 (w : World) : ∃ a b c d, (∀ w', Calls Try.prog 10 #[.agg #[.int .u64 7, .int .u64 0, .int .u64 262146, .int .u64 211106232532992]] w' fun e w1 =>
    e = .returned (.tuple #[.int .u64 0, .agg #[.int .u64 a, .int .u64 b, .int .u64 c, .int .u64 d]]) ∧ Below w'.heap.size w' w1) ∧ (a == 7 && b == 0 && c == 262146 && d == 211106232532992) = false ∧
    ∀ w, Calls Try.prog 8 #[.agg #[.int .u64 1, .int .u64 2, .int .u64 3, .int .u64 4], .int .i64 2] w fun e w' => ∃ v, e = .returned (.tuple #[v, .agg #[.int .u64 a, .int .u64 b, .int .u64 c, .int .u64 d], .int .i64 0]) ∧
      w'.ownsRow (w.heap.size + 2) 22 1 v 2 [.int .u64 11520, .int .u64 0] ∧ Below w.heap.size w w' := by
  have e : out ⟨7, 0, 262146, 211106232532992⟩ = 0 := by decide +kernel
  refine ⟨U (step ⟨7, 0, 262146, 211106232532992⟩).a, U (step ⟨7, 0, 262146, 211106232532992⟩).b, U (step ⟨7, 0, 262146, 211106232532992⟩).c, U (step ⟨7, 0, 262146, 211106232532992⟩).d, fun w' => ?_, ?_, fun w => ?_⟩
  · have h := step_any 7 0 262146 211106232532992 w'
    rw [e] at h
    exact h
  · decide +kernel
  · have h := words_any ⟨1, 2, 3, 4⟩ 2 (by omega) w
    have e1 : outs ⟨1, 2, 3, 4⟩ 2 = [.int .u64 11520, .int .u64 0] := by kernel_rfl
    rw [e1] at h
    have e2 : (stN ⟨1, 2, 3, 4⟩ 2).v = (step ⟨7, 0, 262146, 211106232532992⟩).v := by kernel_rfl
    rw [e2] at h
    exact h

theorem eq4 (w : World) (a b c d a' b' c' d' : Int) :
   (Op.equalIn 10000 24 (.agg #[.int .u64 a, .int .u64 b, .int .u64 c, .int .u64 d]) (.agg #[.int .u64 a', .int .u64 b', .int .u64 c', .int .u64 d'])).run Try.prog w = .ok (a == a' && b == b' && c == c' && d == d') w := by
  obtain ⟨i0, hi, hz0, hz1, hz2⟩ := info_parts Try.info22
  unfold Op.equalIn
  have hp : ∀ (xs : Array Value) (i : Nat) (x : Int) (w : World), xs[i]? = some (.int .u64 x) → (part 22 xs i).run Try.prog w = .ok (.int .u64 x) w := by
    intro xs i x w h
    simp [part, sizeOf, typeInfo, hi, hz1, h, run_underlying Try.underlying22]
  simp [run_underlying Try.underlying24, List.range', hp, run_equalIn_int w 9998 22 .u64 .u64 _ _ Try.underlying22]
  by_cases h1 : a = a' <;> by_cases h2 : b = b' <;> by_cases h3 : c = c' <;> by_cases h4 : d = d' <;> simp [h1, h2, h3, h4, hp, run_equalIn_int w 9998 22 .u64 .u64 _ _ Try.underlying22]
def Blk (w : World) (b : Nat) (x0 x1 x2 x3 : Int) : Prop := w.heap[b]? = some (.cells #[.int .u64 x0, .int .u64 x1, .int .u64 x2, .int .u64 x3] 24 (0, 0))
theorem Blk.cells {w : World} {b : Nat} {x0 x1 x2 x3 : Int} (h : Blk w b x0 x1 x2 x3) :
    w.cell? ⟨b, 0, none⟩ = some (.int .u64 x0) ∧ w.cell? ⟨b, 1, none⟩ = some (.int .u64 x1) ∧ w.cell? ⟨b, 2, none⟩ = some (.int .u64 x2) ∧ w.cell? ⟨b, 3, none⟩ = some (.int .u64 x3) :=
  ⟨by rw [cell_of_row _ _ _ _ _ _ h]; rfl, by rw [cell_of_row _ _ _ _ _ _ h]; rfl, by rw [cell_of_row _ _ _ _ _ _ h]; rfl, by rw [cell_of_row _ _ _ _ _ _ h]; rfl⟩
theorem Blk.new (w : World) (x0 x1 x2 x3 : Int) : Blk (w.alloc (.cells #[.int .u64 x0, .int .u64 x1, .int .u64 x2, .int .u64 x3] 24)) w.heap.size x0 x1 x2 x3 := heap_alloc_new _ _
theorem Blk.below {w w' : World} {b B : Nat} {x0 x1 x2 x3 : Int} (h : Blk w b x0 x1 x2 x3) (hb : Below B w w') (hB : b < B) : Blk w' b x0 x1 x2 x3 := by
  unfold Blk; rw [hb.block _ hB]; exact h
theorem Blk.alloc {w : World} {b : Nat} {x0 x1 x2 x3 : Int} (h : Blk w b x0 x1 x2 x3) (o : Obj) : Blk (w.alloc o) b x0 x1 x2 x3 := by
  unfold Blk; rw [Below.heap_alloc _ _ _ (lt_of_block h)]; exact h
theorem Blk.lt {w : World} {b : Nat} {x0 x1 x2 x3 : Int} (h : Blk w b x0 x1 x2 x3) : b < w.heap.size := lt_of_block h

attribute [local go_sem] eq4
set_option maxHeartbeats 400000 in
theorem alive_any (w : World) : Calls Try.prog 6 #[] w fun e w' => e = .returned (.bool true) ∧ Below w.heap.size w w' := by
  obtain ⟨a, b, c, d, h2, hne, hw⟩ := words_1 w
  have H2 := Lib.hid h2; clear h2
  have HW := Lib.hid hw; clear hw
  have HN := Lib.hid hne; clear hne
  go_enter Try.func6, Try.ntmps6
  go_wp2_with fail
  refine (step_1 _).mono ?_
  rintro e w1 ⟨rfl, hb1⟩
  have B1 := Blk.new w1 7 0 262146 211106232532992
  obtain ⟨y0, y1, y2, y3⟩ := B1.cells
  go_wp2_with fail
  refine (H2.out _).mono ?_
  rintro e w2 ⟨rfl, hb2⟩
  have B2 := B1.below hb2 (by simp)
  have B3 := Blk.new w2 a b c d
  clear y0 y1 y2 y3
  go_wp2_with fail
  refine (HW.out _).mono ?_
  rintro e w3 ⟨v, rfl, hown, hb3⟩
  have hs1 := hb1.size
  have hs2 := hb2.size
  have hs3 := hb3.size
  simp only [World.size_alloc] at hs2 hs3
  obtain ⟨g, cap, rfl, hcap, hcm, hbg, hg, hcell⟩ := own_open hown (by omega)
  have x0 := hcell 0 _ rfl
  have x1 := hcell 1 _ rfl
  have B4 := (B2.alloc (.cells #[.int .u64 a, .int .u64 b, .int .u64 c, .int .u64 d] 24)).below hb3 (by simp; omega)
  have B5 := B3.below hb3 (by simp)
  obtain ⟨y0, y1, y2, y3⟩ := B4.cells
  obtain ⟨z0, z1, z2, z3⟩ := B5.cells
  have hlt1 := B4.lt
  have hlt2 := B5.lt
  clear hcell hown B1 B2 B3 B4 B5
  go_wp2_with fail
  go_ret
  refine ⟨?_, ?_⟩
  · have := HN.out
    simp at this ⊢
    omega
  · exact ((((((Below.refl _ _).trans hb1).alloc hb1.size _).trans (hb2.mono (by simp; omega))).alloc (by omega) _).trans (hb3.mono (by simp; omega))).alloc (by omega) _
end Go.Proofs.Ytingfnibdikacaa
