/- The walk of MixerMix: true for all states and numbers. No condition. -/
import Derived.Test.YtingfnibdikacaaMixerBackW
import Derived.Test.YtingfnibdikacaaWords
import Derived.BigRegion
set_option linter.unusedSimpArgs false
set_option linter.unusedVariables false
namespace Go.Proofs.Ytingfnibdikacaa.mixerMix
open Go.RowKit Go.WideShapes Go.ChangeShapes Go.ChangeAt
open Go.Proofs.Ytingfnibdikacaa.mixerBack (open_mix eq4' eqv_refl eqv)
attribute [local go_sem] xor_U
set_option maxHeartbeats 400000 in
theorem mix_s (s t : S) (w : World) : Calls Try.prog 7 #[.agg #[.int .u64 (U s.a), .int .u64 (U s.b), .int .u64 (U s.c), .int .u64 (U s.d)], .agg #[.int .u64 (U t.a), .int .u64 (U t.b), .int .u64 (U t.c), .int .u64 (U t.d)]] w fun e w' =>
    e = .returned (s.mix t).v ∧ Below w.heap.size w w' := by
  obtain ⟨a, b, c, d⟩ := s
  obtain ⟨e, f, g, h⟩ := t
  go_enter Try.func7, Try.ntmps7
  go_wp2_with fail
  refine wp_loop_rounds 5 ?_; rw [rounds_succ]
  go_wp2_with fail
  go_region
  go_wp2_with fail
  rw [rounds_succ]
  go_wp2_with fail
  go_region
  go_wp2_with fail
  rw [rounds_succ]
  go_wp2_with fail
  go_region
  go_wp2_with fail
  rw [rounds_succ]
  go_wp2_with fail
  go_region
  go_wp2_with fail
  rw [rounds_succ]
  go_wp2_with fail
  refine bodyPost_ret (v := (S.mix ⟨a, b, c, d⟩ ⟨e, f, g, h⟩).v) (by simp [results, Try.results7, go_sem, S.mix, S.v]) rfl ⟨rfl, ?_⟩
  exact (((((((Below.refl _ _).alloc (Nat.le_refl _) _).alloc (by simp) _).alloc (by simp; omega) _).drew).drew).drew).drew
theorem stN_mix (s t : S) (n : Nat) : stN (s.mix t) n = (stN s n).mix (stN t n) := by
  induction n with
  | zero => rfl
  | succ n ih => simp only [stN, ih, step_mix]
def Wds (n : Nat) (a b c d a' b' c' d' : Int) : Prop := ∀ w, Calls Try.prog 8 #[.agg #[.int .u64 a, .int .u64 b, .int .u64 c, .int .u64 d], .int .i64 n] w fun e w' => ∃ v, e = .returned (.tuple #[v, .agg #[.int .u64 a', .int .u64 b', .int .u64 c', .int .u64 d'], .int .i64 0]) ∧ Below w.heap.size w w'
def Mixes (a b c d a' b' c' d' x y z u : Int) : Prop := ∀ w, Calls Try.prog 7 #[.agg #[.int .u64 a, .int .u64 b, .int .u64 c, .int .u64 d], .agg #[.int .u64 a', .int .u64 b', .int .u64 c', .int .u64 d']] w fun e w' => e = .returned (.agg #[.int .u64 x, .int .u64 y, .int .u64 z, .int .u64 u]) ∧ Below w.heap.size w w'
theorem wds (s : S) (n : Nat) (hn : n ≤ 50) : Wds n (U s.a) (U s.b) (U s.c) (U s.d) (U (stN s n).a) (U (stN s n).b) (U (stN s n).c) (U (stN s n).d) :=
  fun w => (words_any s n (by omega) w).mono fun e w' ⟨v, h1, h2, h3⟩ => ⟨v, h1, h3⟩
theorem mixes (s t : S) : Mixes (U s.a) (U s.b) (U s.c) (U s.d) (U t.a) (U t.b) (U t.c) (U t.d) (U (s.mix t).a) (U (s.mix t).b) (U (s.mix t).c) (U (s.mix t).d) := fun w => mix_s s t w
theorem facts (s t : S) (n : Nat) (hn : n ≤ 50) : ∃ a b c d e f g h p q r u x y z v : Int, Wds n (U s.a) (U s.b) (U s.c) (U s.d) a b c d ∧ Wds n (U t.a) (U t.b) (U t.c) (U t.d) e f g h ∧
    Mixes (U s.a) (U s.b) (U s.c) (U s.d) (U t.a) (U t.b) (U t.c) (U t.d) p q r u ∧ Wds n p q r u x y z v ∧ Mixes a b c d e f g h x y z v := by
  refine ⟨_, _, _, _, _, _, _, _, _, _, _, _, _, _, _, _, wds s n hn, wds t n hn, mixes s t, wds (s.mix t) n hn, ?_⟩
  rw [stN_mix]; exact mixes _ _

theorem all12 {w : World} {A1 A2 A3 : Nat} {a b c d e_1 f g h x y z v : Int} (h1 : Blk w A1 a b c d) (h2 : Blk w A2 e_1 f g h) (h3 : Blk w A3 x y z v) :
    w.cell? ⟨A1, 0, none⟩ = some (.int .u64 a) ∧ w.cell? ⟨A1, 1, none⟩ = some (.int .u64 b) ∧ w.cell? ⟨A1, 2, none⟩ = some (.int .u64 c) ∧ w.cell? ⟨A1, 3, none⟩ = some (.int .u64 d) ∧ w.cell? ⟨A2, 0, none⟩ = some (.int .u64 e_1) ∧ w.cell? ⟨A2, 1, none⟩ = some (.int .u64 f) ∧ w.cell? ⟨A2, 2, none⟩ = some (.int .u64 g) ∧ w.cell? ⟨A2, 3, none⟩ = some (.int .u64 h) ∧ w.cell? ⟨A3, 0, none⟩ = some (.int .u64 x) ∧ w.cell? ⟨A3, 1, none⟩ = some (.int .u64 y) ∧ w.cell? ⟨A3, 2, none⟩ = some (.int .u64 z) ∧ w.cell? ⟨A3, 3, none⟩ = some (.int .u64 v) :=
  ⟨h1.cells.1, h1.cells.2.1, h1.cells.2.2.1, h1.cells.2.2.2, h2.cells.1, h2.cells.2.1, h2.cells.2.2.1, h2.cells.2.2.2, h3.cells.1, h3.cells.2.1, h3.cells.2.2.1, h3.cells.2.2.2⟩
attribute [local go_sem] eq4'
set_option maxHeartbeats 400000 in
theorem walk_out (m0 m1 m2 m3 o0 o1 o2 o3 n : Int) (w : World) (hn : n < 0 ∨ 50 < n) :
    Calls Try.prog 3 #[.agg #[.int .u64 m0, .int .u64 m1, .int .u64 m2, .int .u64 m3], .agg #[.int .u64 o0, .int .u64 o1, .int .u64 o2, .int .u64 o3], .int .i64 n] w fun e w' => e = .returned (.bool true) ∧ Below w.heap.size w w' := by
  rcases hn with hn | hn
  · go_enter Try.func3, Try.ntmps3
    go_wp2_with fail
    refine (alive_any _).mono ?_
    rintro e w1 ⟨rfl, hb1⟩
    go_wp2_with fail
    go_ret
    exact ⟨rfl, (((Below.refl _ _).alloc (Nat.le_refl _) _).alloc (by simp) _).trans (hb1.mono (by simp; omega))⟩
  · have h0 : ¬ n < 0 := by omega
    go_enter Try.func3, Try.ntmps3
    go_wp2_with fail
    refine (alive_any _).mono ?_
    rintro e w1 ⟨rfl, hb1⟩
    go_wp2_with fail
    go_ret
    exact ⟨rfl, (((Below.refl _ _).alloc (Nat.le_refl _) _).alloc (by simp) _).trans (hb1.mono (by simp; omega))⟩
set_option maxHeartbeats 400000 in
theorem walkI (n : Nat) (hn : n ≤ 50) (m0 m1 m2 m3 o0 o1 o2 o3 a b c d e_1 f g h p q r u x y z v : Int) (w : World)
    (H1 : Hid (Wds n m0 m1 m2 m3 a b c d)) (H2 : Hid (Wds n o0 o1 o2 o3 e_1 f g h)) (H3 : Hid (Mixes m0 m1 m2 m3 o0 o1 o2 o3 p q r u)) (H4 : Hid (Wds n p q r u x y z v)) (H5 : Hid (Mixes a b c d e_1 f g h x y z v)) :
    Calls Try.prog 3 #[.agg #[.int .u64 m0, .int .u64 m1, .int .u64 m2, .int .u64 m3], .agg #[.int .u64 o0, .int .u64 o1, .int .u64 o2, .int .u64 o3], .int .i64 n] w fun e w' => e = .returned (.bool true) ∧ Below w.heap.size w w' := by
  have E5 := eqv_refl x y z v
  have h0 : ¬ (n : Int) < 0 := by omega
  have h50 : ¬ (50 : Int) < n := by omega
  go_enter Try.func3, Try.ntmps3
  go_wp2_with fail
  refine (alive_any _).mono ?_
  rintro e w1 ⟨rfl, hb1⟩
  have B1 := ((Blk.new w m0 m1 m2 m3).alloc (.cells #[.int .u64 o0, .int .u64 o1, .int .u64 o2, .int .u64 o3] 24)).below hb1 (by simp; omega)
  have B2 := (Blk.new (w.alloc (.cells #[.int .u64 m0, .int .u64 m1, .int .u64 m2, .int .u64 m3] 24)) o0 o1 o2 o3).below hb1 (by simp)
  have hs1 := hb1.size
  simp only [World.size_alloc] at hs1 B2
  obtain ⟨x0, x1, x2, x3⟩ := B1.cells
  go_wp2_with fail
  refine (H1.out _).mono ?_
  rintro e w2 ⟨v1, rfl, hb2⟩
  have B3 := B1.below hb2 (by omega)
  have B4 := B2.below hb2 (by omega)
  have B5 := Blk.new w2 a b c d
  have hs2 := hb2.size
  clear x0 x1 x2 x3
  obtain ⟨x0, x1, x2, x3⟩ := B4.cells
  have xl := B4.lt
  go_wp2_with fail
  refine (H2.out _).mono ?_
  rintro e w3 ⟨v2, rfl, hb3⟩
  have hs3 := hb3.size
  simp only [World.size_alloc] at hs3
  have B6 := (B3.alloc (.cells #[.int .u64 a, .int .u64 b, .int .u64 c, .int .u64 d] 24)).below hb3 (by simp; omega)
  have B7 := (B4.alloc (.cells #[.int .u64 a, .int .u64 b, .int .u64 c, .int .u64 d] 24)).below hb3 (by simp; omega)
  have B8 := B5.below hb3 (by simp)
  have B9 := Blk.new w3 e_1 f g h
  clear x0 x1 x2 x3
  obtain ⟨x0, x1, x2, x3⟩ := B6.cells
  obtain ⟨y0, y1, y2, y3⟩ := B7.cells
  have xl2 := B6.lt
  have xl3 := B7.lt
  go_wp2_with fail
  refine (H3.out _).mono ?_
  rintro e w4 ⟨rfl, hb4⟩
  have hs4 := hb4.size
  simp only [World.size_alloc] at hs4
  go_wp2_with fail
  refine (H4.out _).mono ?_
  rintro e w5 ⟨v3, rfl, hb5⟩
  have hs5 := hb5.size
  have L3 := ((B8.alloc (.cells #[.int .u64 e_1, .int .u64 f, .int .u64 g, .int .u64 h] 24)).below hb4 (by simp; omega)).below hb5 (by omega)
  have L4 := (B9.below hb4 (by simp)).below hb5 (by omega)
  have L5 := Blk.new w5 x y z v
  clear x0 x1 x2 x3 y0 y1 y2 y3 B1 B2 B3 B4 B5 B6 B7 B8 B9
  go_wp2_with fail
  have M3 := L3.alloc (.cells #[.int .u64 x, .int .u64 y, .int .u64 z, .int .u64 v] 24)
  have M4 := L4.alloc (.cells #[.int .u64 x, .int .u64 y, .int .u64 z, .int .u64 v] 24)
  have hB : Below w.heap.size w (w5.alloc (.cells #[.int .u64 x, .int .u64 y, .int .u64 z, .int .u64 v] 24)) := by
    have b1 : Below w.heap.size w w1 := (((Below.refl _ _).alloc (Nat.le_refl _) _).alloc (by simp) _).trans (hb1.mono (by simp; omega))
    have b3 := ((b1.trans (hb2.mono (by omega))).alloc (by omega) (.cells #[.int .u64 a, .int .u64 b, .int .u64 c, .int .u64 d] 24)).trans (hb3.mono (by simp; omega))
    exact (((b3.alloc (by omega) _).trans (hb4.mono (by simp; omega))).trans (hb5.mono (by omega))).alloc (by omega) _
  have hws : w.heap.size ≤ (w5.alloc (.cells #[.int .u64 x, .int .u64 y, .int .u64 z, .int .u64 v] 24)).heap.size := hB.size
  clear L3 L4 hb1 hb2 hb3 hb4 hb5 hs1 hs2 hs3 hs4 hs5 xl xl2 xl3 H1 H2 H3 H4
  generalize w5.alloc (.cells #[.int .u64 x, .int .u64 y, .int .u64 z, .int .u64 v] 24) = W at *
  generalize hA1 : w.heap.size = A0 at *
  have HA := Lib.hid hA1; clear hA1
  generalize w2.heap.size = A1 at *
  generalize w3.heap.size = A2 at *
  generalize w5.heap.size = A3 at *
  have l3 := M3.lt
  have l4 := M4.lt
  have l5 := L5.lt
  have N3 := Lib.hid M3; have N4 := Lib.hid M4; have N5 := Lib.hid L5
  clear M3 M4 L5
  have HB := Lib.hid hB; clear hB
  go_region_held3 (fun w' => w'.cell? ⟨A1, 0, none⟩ = some (.int .u64 a) ∧ w'.cell? ⟨A1, 1, none⟩ = some (.int .u64 b) ∧ w'.cell? ⟨A1, 2, none⟩ = some (.int .u64 c) ∧ w'.cell? ⟨A1, 3, none⟩ = some (.int .u64 d) ∧ w'.cell? ⟨A2, 0, none⟩ = some (.int .u64 e_1) ∧ w'.cell? ⟨A2, 1, none⟩ = some (.int .u64 f) ∧ w'.cell? ⟨A2, 2, none⟩ = some (.int .u64 g) ∧ w'.cell? ⟨A2, 3, none⟩ = some (.int .u64 h) ∧ w'.cell? ⟨A3, 0, none⟩ = some (.int .u64 x) ∧ w'.cell? ⟨A3, 1, none⟩ = some (.int .u64 y) ∧ w'.cell? ⟨A3, 2, none⟩ = some (.int .u64 z) ∧ w'.cell? ⟨A3, 3, none⟩ = some (.int .u64 v)) (first | exact all12 N3.out N4.out N5.out | exact all12 (w := W.drew) N3.out N4.out N5.out | exact all12 (Blk.below (w := W.drew) N3.out ‹Below W.drew.heap.size W.drew _› l3) (Blk.below (w := W.drew) N4.out ‹Below W.drew.heap.size W.drew _› l4) (Blk.below (w := W.drew) N5.out ‹Below W.drew.heap.size W.drew _› l5)) (first | (go_at_call 7; refine (H5.out _).mono ?_; rintro e w6 ⟨rfl, hb6⟩))
  go_wp2_with fail
  go_ret
  rw [HA.out]
  exact ⟨rfl, (Below.drew HB.out).trans (Below.mono ‹Below W.drew.heap.size W.drew _› hws)⟩
theorem walk (s t : S) (n : Int) (w : World) (_ _ : True) (wn : (Lit.int .i64 n).wf = true) : Calls Try.prog 3 #[s.v, t.v, .int .i64 n] w fun e w' => e = .returned (.bool true) ∧ Below w.heap.size w w' := by
  by_cases hn : 0 ≤ n ∧ n ≤ 50
  · obtain ⟨k, rfl⟩ := Int.eq_ofNat_of_zero_le hn.1
    obtain ⟨a, b, c, d, e, f, g, h, p, q, r, u, x, y, z, v, h1, h2, h3, h4, h5⟩ := facts s t k (by omega)
    exact walkI k (by omega) _ _ _ _ _ _ _ _ _ _ _ _ _ _ _ _ _ _ _ _ _ _ _ _ w h1 h2 h3 h4 h5
  · exact walk_out _ _ _ _ _ _ _ _ n w (by omega)
end Go.Proofs.Ytingfnibdikacaa.mixerMix
