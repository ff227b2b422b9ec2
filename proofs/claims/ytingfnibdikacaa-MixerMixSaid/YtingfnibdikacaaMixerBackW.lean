/- The walk of MixerBack: true for all states. No condition. -/
import Derived.Test.YtingfnibdikacaaBackLaw
import Derived.Test.YtingfnibdikacaaAlive
import Derived.Deep.RegionWith
import Derived.ProofKit
import Derived.OpenShut
import Derived.Deep.RegionHeld3
set_option linter.unusedSimpArgs false
set_option linter.unusedVariables false
namespace Go.Proofs.Ytingfnibdikacaa.mixerBack
open Go.RowKit Go.WideShapes Go.ChangeShapes Go.ChangeAt
def V (a b c d : Int) : Value := .agg #[.int .u64 a, .int .u64 b, .int .u64 c, .int .u64 d]
def Steps (a b c d a' b' c' d' : Int) : Prop := ∀ w, Calls Try.prog 10 #[.agg #[.int .u64 a, .int .u64 b, .int .u64 c, .int .u64 d]] w fun e w' => ∃ o : Int, e = .returned (.tuple #[.int .u64 o, .agg #[.int .u64 a', .int .u64 b', .int .u64 c', .int .u64 d']]) ∧ Below w.heap.size w w'
def Backs (a b c d a' b' c' d' : Int) : Prop := ∀ w, Calls Try.prog 11 #[.agg #[.int .u64 a, .int .u64 b, .int .u64 c, .int .u64 d]] w fun e w' => e = .returned (.agg #[.int .u64 a', .int .u64 b', .int .u64 c', .int .u64 d']) ∧ Below w.heap.size w w'
theorem steps (s : S) : Steps (U s.a) (U s.b) (U s.c) (U s.d) (U (step s).a) (U (step s).b) (U (step s).c) (U (step s).d) :=
  fun w => (step_s s w).mono fun e w' ⟨h1, h2⟩ => ⟨_, h1, h2⟩
theorem backs (s : S) : Backs (U s.a) (U s.b) (U s.c) (U s.d) (U (back s).a) (U (back s).b) (U (back s).c) (U (back s).d) := fun w => back_any s.a s.b s.c s.d w
def eqv (a b c d a' b' c' d' : Int) : Bool := a == a' && b == b' && c == c' && d == d'
theorem eqv_S (s t : S) : eqv (U s.a) (U s.b) (U s.c) (U s.d) (U t.a) (U t.b) (U t.c) (U t.d) = true ↔ s = t := by
  unfold eqv
  simp only [Bool.and_eq_true, beq_iff_eq, U_inj]
  obtain ⟨a, b, c, d⟩ := s
  obtain ⟨a', b', c', d'⟩ := t
  simp [and_assoc]
theorem facts (s t : S) : ∃ a b c d e f g h p q r u : Int, Steps (U s.a) (U s.b) (U s.c) (U s.d) a b c d ∧ Steps (U t.a) (U t.b) (U t.c) (U t.d) e f g h ∧
    Backs (U s.a) (U s.b) (U s.c) (U s.d) p q r u ∧ Steps p q r u (U s.a) (U s.b) (U s.c) (U s.d) ∧ Backs a b c d (U s.a) (U s.b) (U s.c) (U s.d) ∧
    eqv a b c d e f g h = eqv (U s.a) (U s.b) (U s.c) (U s.d) (U t.a) (U t.b) (U t.c) (U t.d) ∧ eqv a b c d 0 0 0 0 = eqv (U s.a) (U s.b) (U s.c) (U s.d) 0 0 0 0 := by
  refine ⟨_, _, _, _, _, _, _, _, _, _, _, _, steps s, steps t, backs s, ?_, ?_, ?_, ?_⟩
  · have := steps (back s); rw [step_back] at this; exact this
  · have := backs (step s); rw [back_step] at this; exact this
  · rw [Bool.eq_iff_iff, eqv_S, eqv_S]; exact ⟨step_inj, fun h => by rw [h]⟩
  · have h1 := eqv_S (step s) ⟨0, 0, 0, 0⟩
    have h2 := eqv_S s ⟨0, 0, 0, 0⟩
    rw [Bool.eq_iff_iff]
    refine h1.trans (Iff.trans ?_ h2.symm)
    exact ⟨fun h => step_inj (h.trans step_zero.symm), fun h => by rw [h]; exact step_zero⟩
theorem eq4' (w : World) (a b c d a' b' c' d' : Int) :
   (Op.equalIn 10000 24 (.agg #[.int .u64 a, .int .u64 b, .int .u64 c, .int .u64 d]) (.agg #[.int .u64 a', .int .u64 b', .int .u64 c', .int .u64 d'])).run Try.prog w = .ok (eqv a b c d a' b' c' d') w := eq4 w a b c d a' b' c' d'
theorem eqv_refl (a b c d : Int) : eqv a b c d a b c d = true := by simp [eqv]
attribute [local go_sem] eq4'
theorem all20 {w : World} {A1 A2 A3 A5 : Nat} {m0 m1 m2 m3 o0 o1 o2 o3 a b c d e_1 f g h : Int} (h1 : Blk w A1 m0 m1 m2 m3) (h2 : Blk w (A1 + 1) o0 o1 o2 o3) (h3 : Blk w A2 a b c d) (h4 : Blk w A3 e_1 f g h) (h5 : Blk w A5 m0 m1 m2 m3) :
    w.cell? ⟨A1, 0, none⟩ = some (.int .u64 m0) ∧ w.cell? ⟨A1, 1, none⟩ = some (.int .u64 m1) ∧ w.cell? ⟨A1, 2, none⟩ = some (.int .u64 m2) ∧ w.cell? ⟨A1, 3, none⟩ = some (.int .u64 m3) ∧ w.cell? ⟨A1 + 1, 0, none⟩ = some (.int .u64 o0) ∧ w.cell? ⟨A1 + 1, 1, none⟩ = some (.int .u64 o1) ∧ w.cell? ⟨A1 + 1, 2, none⟩ = some (.int .u64 o2) ∧ w.cell? ⟨A1 + 1, 3, none⟩ = some (.int .u64 o3) ∧ w.cell? ⟨A2, 0, none⟩ = some (.int .u64 a) ∧ w.cell? ⟨A2, 1, none⟩ = some (.int .u64 b) ∧ w.cell? ⟨A2, 2, none⟩ = some (.int .u64 c) ∧ w.cell? ⟨A2, 3, none⟩ = some (.int .u64 d) ∧ w.cell? ⟨A3, 0, none⟩ = some (.int .u64 e_1) ∧ w.cell? ⟨A3, 1, none⟩ = some (.int .u64 f) ∧ w.cell? ⟨A3, 2, none⟩ = some (.int .u64 g) ∧ w.cell? ⟨A3, 3, none⟩ = some (.int .u64 h) ∧ w.cell? ⟨A5, 0, none⟩ = some (.int .u64 m0) ∧ w.cell? ⟨A5, 1, none⟩ = some (.int .u64 m1) ∧ w.cell? ⟨A5, 2, none⟩ = some (.int .u64 m2) ∧ w.cell? ⟨A5, 3, none⟩ = some (.int .u64 m3) :=
  ⟨h1.cells.1, h1.cells.2.1, h1.cells.2.2.1, h1.cells.2.2.2, h2.cells.1, h2.cells.2.1, h2.cells.2.2.1, h2.cells.2.2.2, h3.cells.1, h3.cells.2.1, h3.cells.2.2.1, h3.cells.2.2.2, h4.cells.1, h4.cells.2.1, h4.cells.2.2.1, h4.cells.2.2.2, h5.cells.1, h5.cells.2.1, h5.cells.2.2.1, h5.cells.2.2.2⟩
theorem walkI (m0 m1 m2 m3 o0 o1 o2 o3 a b c d e_1 f g h p q r u : Int) (w : World)
    (H1 : Hid (Steps m0 m1 m2 m3 a b c d)) (H2 : Hid (Steps o0 o1 o2 o3 e_1 f g h)) (H3 : Hid (Backs m0 m1 m2 m3 p q r u)) (H4 : Hid (Steps p q r u m0 m1 m2 m3)) (H5 : Hid (Backs a b c d m0 m1 m2 m3))
    (x y : Bool) (E1 : eqv a b c d e_1 f g h = x) (E2 : eqv m0 m1 m2 m3 o0 o1 o2 o3 = x) (E3 : eqv a b c d 0 0 0 0 = y) (E4 : eqv m0 m1 m2 m3 0 0 0 0 = y) :
    Calls Try.prog 5 #[.agg #[.int .u64 m0, .int .u64 m1, .int .u64 m2, .int .u64 m3], .agg #[.int .u64 o0, .int .u64 o1, .int .u64 o2, .int .u64 o3]] w fun e w' => e = .returned (.bool true) ∧ Below w.heap.size w w' := by
  have E5 := eqv_refl m0 m1 m2 m3
  go_enter Try.func5, Try.ntmps5
  go_wp2_with fail
  refine (alive_any _).mono ?_
  rintro e w1 ⟨rfl, hb1⟩
  have B1 := ((Blk.new w m0 m1 m2 m3).alloc (.cells #[.int .u64 o0, .int .u64 o1, .int .u64 o2, .int .u64 o3] 24)).below hb1 (by simp; omega)
  have B2 := (Blk.new (w.alloc (.cells #[.int .u64 m0, .int .u64 m1, .int .u64 m2, .int .u64 m3] 24)) o0 o1 o2 o3).below hb1 (by simp)
  have hs1 := hb1.size
  simp only [World.size_alloc] at hs1 B2
  obtain ⟨x0, x1, x2, x3⟩ := B1.cells
  go_wp2_with fail
  refine (H1.out _).mono ?_
  rintro e w2 ⟨o, rfl, hb2⟩
  have B3 := B1.below hb2 (by omega)
  have B4 := B2.below hb2 (by omega)
  have B5 := Blk.new w2 a b c d
  have hs2 := hb2.size
  clear x0 x1 x2 x3
  obtain ⟨x0, x1, x2, x3⟩ := B4.cells
  have xl := B4.lt
  go_wp2_with fail
  refine (H2.out _).mono ?_
  rintro e w3 ⟨o', rfl, hb3⟩
  have hs3 := hb3.size
  simp only [World.size_alloc] at hs3
  have B6 := (B3.alloc (.cells #[.int .u64 a, .int .u64 b, .int .u64 c, .int .u64 d] 24)).below hb3 (by simp; omega)
  have B7 := (B4.alloc (.cells #[.int .u64 a, .int .u64 b, .int .u64 c, .int .u64 d] 24)).below hb3 (by simp; omega)
  have B8 := B5.below hb3 (by simp)
  have B9 := Blk.new w3 e_1 f g h
  clear x0 x1 x2 x3
  obtain ⟨x0, x1, x2, x3⟩ := B6.cells
  have xl2 := B6.lt
  go_wp2_with fail
  refine (H3.out _).mono ?_
  rintro e w4 ⟨rfl, hb4⟩
  have hs4 := hb4.size
  simp only [World.size_alloc] at hs4
  go_wp2_with fail
  refine (H4.out _).mono ?_
  rintro e w5 ⟨o'', rfl, hb5⟩
  have hs5 := hb5.size
  have L1 := ((B6.alloc (.cells #[.int .u64 e_1, .int .u64 f, .int .u64 g, .int .u64 h] 24)).below hb4 (by simp; omega)).below hb5 (by omega)
  have L2 := ((B7.alloc (.cells #[.int .u64 e_1, .int .u64 f, .int .u64 g, .int .u64 h] 24)).below hb4 (by simp; omega)).below hb5 (by omega)
  have L3 := ((B8.alloc (.cells #[.int .u64 e_1, .int .u64 f, .int .u64 g, .int .u64 h] 24)).below hb4 (by simp; omega)).below hb5 (by omega)
  have L4 := (B9.below hb4 (by simp)).below hb5 (by omega)
  have L5 := Blk.new w5 m0 m1 m2 m3
  clear x0 x1 x2 x3 B1 B2 B3 B4 B5 B6 B7 B8 B9
  go_wp2_with fail
  have M1 := L1.alloc (.cells #[.int .u64 m0, .int .u64 m1, .int .u64 m2, .int .u64 m3] 24)
  have M2 := L2.alloc (.cells #[.int .u64 m0, .int .u64 m1, .int .u64 m2, .int .u64 m3] 24)
  have M3 := L3.alloc (.cells #[.int .u64 m0, .int .u64 m1, .int .u64 m2, .int .u64 m3] 24)
  have M4 := L4.alloc (.cells #[.int .u64 m0, .int .u64 m1, .int .u64 m2, .int .u64 m3] 24)
  have hB : Below w.heap.size w (w5.alloc (.cells #[.int .u64 m0, .int .u64 m1, .int .u64 m2, .int .u64 m3] 24)) := by
    have b1 : Below w.heap.size w w1 := (((Below.refl _ _).alloc (Nat.le_refl _) _).alloc (by simp) _).trans (hb1.mono (by simp; omega))
    have b3 := ((b1.trans (hb2.mono (by omega))).alloc (by omega) (.cells #[.int .u64 a, .int .u64 b, .int .u64 c, .int .u64 d] 24)).trans (hb3.mono (by simp; omega))
    exact (((b3.alloc (by omega) _).trans (hb4.mono (by simp; omega))).trans (hb5.mono (by omega))).alloc (by omega) _
  clear L1 L2 L3 L4 hb1 hb2 hb3 hb4 hb5 hs1 hs2 hs3 hs4 hs5 xl xl2 H1 H2 H3 H4
  generalize w5.alloc (.cells #[.int .u64 m0, .int .u64 m1, .int .u64 m2, .int .u64 m3] 24) = W at *
  generalize hA1 : w.heap.size = A1 at *
  have HA := Lib.hid hA1; clear hA1
  generalize w2.heap.size = A2 at *
  generalize w3.heap.size = A3 at *
  generalize w5.heap.size = A5 at *
  have l1 := M1.lt
  have l2 := M2.lt
  have l3 := M3.lt
  have l4 := M4.lt
  have l5 := L5.lt
  have N1 := Lib.hid M1; have N2 := Lib.hid M2; have N3 := Lib.hid M3; have N4 := Lib.hid M4; have N5 := Lib.hid L5
  clear M1 M2 M3 M4 L5
  have HB := Lib.hid hB; clear hB
  go_region_held3 (fun w' => w'.cell? ⟨A1, 0, none⟩ = some (.int .u64 m0) ∧ w'.cell? ⟨A1, 1, none⟩ = some (.int .u64 m1) ∧ w'.cell? ⟨A1, 2, none⟩ = some (.int .u64 m2) ∧ w'.cell? ⟨A1, 3, none⟩ = some (.int .u64 m3) ∧ w'.cell? ⟨A1 + 1, 0, none⟩ = some (.int .u64 o0) ∧ w'.cell? ⟨A1 + 1, 1, none⟩ = some (.int .u64 o1) ∧ w'.cell? ⟨A1 + 1, 2, none⟩ = some (.int .u64 o2) ∧ w'.cell? ⟨A1 + 1, 3, none⟩ = some (.int .u64 o3) ∧ w'.cell? ⟨A2, 0, none⟩ = some (.int .u64 a) ∧ w'.cell? ⟨A2, 1, none⟩ = some (.int .u64 b) ∧ w'.cell? ⟨A2, 2, none⟩ = some (.int .u64 c) ∧ w'.cell? ⟨A2, 3, none⟩ = some (.int .u64 d) ∧ w'.cell? ⟨A3, 0, none⟩ = some (.int .u64 e_1) ∧ w'.cell? ⟨A3, 1, none⟩ = some (.int .u64 f) ∧ w'.cell? ⟨A3, 2, none⟩ = some (.int .u64 g) ∧ w'.cell? ⟨A3, 3, none⟩ = some (.int .u64 h) ∧ w'.cell? ⟨A5, 0, none⟩ = some (.int .u64 m0) ∧ w'.cell? ⟨A5, 1, none⟩ = some (.int .u64 m1) ∧ w'.cell? ⟨A5, 2, none⟩ = some (.int .u64 m2) ∧ w'.cell? ⟨A5, 3, none⟩ = some (.int .u64 m3)) (first | exact all20 N1.out N2.out N3.out N4.out N5.out | exact all20 (w := W.drew) N1.out N2.out N3.out N4.out N5.out | exact all20 (Blk.below (w := W.drew) N1.out ‹Below W.drew.heap.size W.drew _› l1) (Blk.below (w := W.drew) N2.out ‹Below W.drew.heap.size W.drew _› l2) (Blk.below (w := W.drew) N3.out ‹Below W.drew.heap.size W.drew _› l3) (Blk.below (w := W.drew) N4.out ‹Below W.drew.heap.size W.drew _› l4) (Blk.below (w := W.drew) N5.out ‹Below W.drew.heap.size W.drew _› l5)) (first | (go_at_call 11; refine (H5.out _).mono ?_; rintro e w6 ⟨rfl, hb6⟩))
  go_wp2_with fail
  go_ret
  rw [HA.out]
  exact ⟨rfl, (Below.drew HB.out).trans (Below.mono ‹Below W.drew.heap.size W.drew _› (Nat.le_of_lt l1))⟩
theorem open_mix {W : World} {H : Type} {enc : TypeId × Value → H} {r : Reach} {b0 : Nat} {v : Value} {d : DataW H} {p : List MemPlace} (hv : Value.okWide Try.prog W r b0 24 v)
    (h : DataW.Trod enc Try.prog W 0 (fun _ => true) true 24 v d p) (_lt : ∀ x ∈ p, x.block < W.heap.size) : ∃ s : S, v = s.v ∧ True := by
  have hv2 : ∃ cs, v = .agg cs ∧ cs.size = Try.prog.cellsOf 24 ∧ Row.okWide Try.prog W r b0 24 cs := by
    unfold Value.okWide at hv; rw [Try.underlying24] at hv; exact hv
  obtain ⟨cs, rfl, hsz, _⟩ := hv2
  have h24 : Try.prog.cellsOf 24 = 4 := by kernel_rfl
  have h22 : Try.prog.cellsOf 22 = 1 := by kernel_rfl
  rw [h24] at hsz
  obtain ⟨fuel, hf⟩ := h
  obtain ⟨xs, m, _, _, _, hl, hi⟩ := DataW.trod_array Try.underlying24 hf
  rw [h22] at hi
  match cs, hsz with
  | ⟨[c0, c1, c2, c3]⟩, _ =>
    have g0 := hi 0 (by omega)
    have g1 := hi 1 (by omega)
    have g2 := hi 2 (by omega)
    have g3 := hi 3 (by omega)
    simp [Value.cells] at g0 g1 g2 g3
    rw [List.getElem?_eq_getElem (by omega)] at g0 g1 g2 g3
    obtain ⟨a0, e0, _, w0⟩ := DataW.trod_int Try.underlying22 g0
    obtain ⟨a1, e1, _, w1⟩ := DataW.trod_int Try.underlying22 g1
    obtain ⟨a2, e2, _, w2⟩ := DataW.trod_int Try.underlying22 g2
    obtain ⟨a3, e3, _, w3⟩ := DataW.trod_int Try.underlying22 g3
    simp at e0 e1 e2 e3
    subst e0 e1 e2 e3
    obtain ⟨x0, rfl⟩ := U_of w0
    obtain ⟨x1, rfl⟩ := U_of w1
    obtain ⟨x2, rfl⟩ := U_of w2
    obtain ⟨x3, rfl⟩ := U_of w3
    exact ⟨⟨x0, x1, x2, x3⟩, rfl, trivial⟩
theorem walk (s t : S) (w : World) (_ _ : True) : Calls Try.prog 5 #[s.v, t.v] w fun e w' => e = .returned (.bool true) ∧ Below w.heap.size w w' := by
  obtain ⟨a, b, c, d, e, f, g, h, p, q, r, u, h1, h2, h3, h4, h5, h6, h7⟩ := facts s t
  exact walkI _ _ _ _ _ _ _ _ _ _ _ _ _ _ _ _ _ _ _ _ w h1 h2 h3 h4 h5 _ _ h6 rfl h7 rfl
end Go.Proofs.Ytingfnibdikacaa.mixerBack
