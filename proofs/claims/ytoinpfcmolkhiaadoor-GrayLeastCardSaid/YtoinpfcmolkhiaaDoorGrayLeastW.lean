/- The walk of GrayLeast. Condition: the table of math/bits is as its initialiser lays it. -/
import Derived.Test.YtoinpfcmolkhiaaDoorAl
import Derived.Test.YtoinpfcmolkhiaaDoorXLess
import Derived.Test.YtoinpfcmolkhiaaDoorConcat
import Derived.Deep.RegionHeld3
import Derived.Deep.DeepCutAuto
import Derived.Deep.CutRange
set_option linter.unusedSimpArgs false
set_option linter.unusedVariables false
namespace Go.Proofs.YtoinpfcmolkhiaaDoor.grayLeast
open Go.RowKit Go.Proofs.YtoinpfcmolkhiaaDoor
/-- slices.Concat of a row from a place on, and up to it. -/
theorem turn_any (b0 off n c k b : Nat) (zs : List Bool) (w : World) (h : RdB w (.slice (some ⟨b0, off, none⟩) n c) zs) (hk : k < n) (h4 : n ≤ 400)
    (c1 : w.cell? ⟨b, 0, none⟩ = some (.slice (some ⟨b0, off + k, none⟩) (n - k) (c - k))) (c2 : w.cell? ⟨b, 1, none⟩ = some (.slice (some ⟨b0, off, none⟩) k c)) (hb : b < w.heap.size) :
    Calls Tryd.prog 15 #[.slice (some ⟨b, 0, none⟩) 2 2] w fun e w' => Below w.heap.size w w' ∧ ∃ a c', e = .returned (.slice a n c') ∧ RdB w' (.slice a n c') (turn zs k) := by
  obtain ⟨hl, hc, hm⟩ := h.lenEq
  have hd := (h.drop (k := k) (by omega)).1 (by omega)
  have ht := h.take (k := k) (by omega)
  have e1 : Option.map (fun x => x.add k) (some (⟨b0, off, none⟩ : Addr)) = some ⟨b0, off + k, none⟩ := by simp [Addr.add]
  rw [e1] at hd
  refine (concatb_any b (n - k) (c - k) k c _ _ _ _ w hd ht (fun h => by cases h) (fun h => by cases h) c1 c2 hb (by omega)).mono ?_
  rintro e w' ⟨hb', v, rfl, hr⟩
  have hlen : (turn zs k).length = n := by rw [turn_len zs k (by omega), hl]
  obtain ⟨a, c', hv, _, _⟩ := hr.slice
  refine ⟨hb', a, c', ?_, ?_⟩
  · rw [hv]; congr 2
  · have : v = .slice a n c' := by rw [hv]; congr 1
    rw [← this]; exact hr
theorem bw1 (w : World) (O : Obj) : Below w.heap.size w (w.alloc O).drew := ((Below.refl _ _).alloc (Nat.le_refl _) _).drew
theorem kw1 (w : World) (cs : Array Value) : (w.alloc (.cells cs 26)).drew.heap[w.heap.size]? = some (.cells cs 26 (0, 0)) := heap_alloc_new w _
theorem bw2 (w : World) (O O' : Obj) : Below w.heap.size w ((w.alloc O).alloc O').drew := (((Below.refl _ _).alloc (Nat.le_refl _) _).alloc (by simp) _).drew
theorem kw2 (w : World) (cs : Array Value) (O' : Obj) : ((w.alloc (.cells cs 26)).alloc O').drew.heap[w.heap.size]? = some (.cells cs 26 (0, 0)) :=
  (Below.heap_alloc (w.alloc (.cells cs 26)) _ _ (by simp)).trans (heap_alloc_new w _)
theorem kw2' (w : World) (O : Obj) (cs : Array Value) : ((w.alloc O).alloc (.cells cs 26)).drew.heap[w.heap.size + 1]? = some (.cells cs 26 (0, 0)) := by
  have := heap_alloc_new (w.alloc O) (.cells cs 26)
  rw [show (w.alloc O).heap.size = w.heap.size + 1 by simp] at this
  exact this
theorem lw2 (w : World) (O O' : Obj) : w.heap.size + 1 < ((w.alloc O).alloc O').drew.heap.size := by show _ < ((w.alloc O).alloc O').heap.size; simp
theorem lw2' (w : World) (O O' : Obj) : w.heap.size < ((w.alloc O).alloc O').drew.heap.size := by show _ < ((w.alloc O).alloc O').heap.size; simp; omega
set_option maxHeartbeats 1600000 in
set_option maxRecDepth 20000 in
theorem run (a0 : Option Addr) (n c : Nat) (zs : List Bool) (by' : Int) (w : World) (hT : TabAt w) (hr : RdB w (.slice a0 n c) zs) (h1 : 1 ≤ n) (h2 : n ≤ 400) (hw : (Lit.int .i64 by').wf = true) :
    Calls Tryd.prog 5 #[.slice a0 n c, .int .i64 by'] w fun e w' => e = .returned (.bool true) ∧ Below w.heap.size w w' := by
  obtain ⟨hl, hc, hm⟩ := hr.lenEq
  obtain ⟨b0, off, rfl, hb0, -⟩ := hr.at (by omega)
  have hA := lst_le zs (n - 1)
  have HLE := Lib.hid (fun zs' => lst_le zs' (n - 1))
  have HL1 := Lib.hid (least_turn zs)
  have HL2 := Lib.hid (least_first zs (by omega))
  rw [hl] at HL1 HL2
  have hb1 := bounds_i64 hw
  have ht1 : -(n : Int) < by'.tmod n := by
    have := Int.lt_tmod_of_pos by' (show (0 : Int) < n by omega); omega
  have ht2 : by'.tmod n < (n : Int) := Int.tmod_lt_of_pos by' (by omega)
  obtain ⟨r, hr'⟩ : ∃ r, by'.tmod (n : Int) = r := ⟨_, rfl⟩
  rw [hr'] at ht1 ht2
  obtain ⟨k, hk⟩ : ∃ k : Nat, (r + n) % n = (k : Int) := ⟨((r + n) % n).toNat, by have := Int.emod_nonneg (r + n) (show (n : Int) ≠ 0 by omega); omega⟩
  have hkn : k < n := by have := Int.emod_lt_of_pos (r + n) (show (0 : Int) < n by omega); omega
  have HR := Lib.hid hr
  have HT := Lib.hid hT
  have HLN := Lib.hid hl
  have hm2 : c ≤ 9223372036854775807 := hm
  have hn0 : ((n : Int) == 0) = false := by rw [beq_eq_false_iff_ne]; omega
  have hkI : (k : Int) ≤ (n : Int) := by omega
  clear hr hT hl hw
  go_enter Tryd.func5, Tryd.ntmps5
  go_wp2_with fail
  refine (alive_any w HT.out).mono ?_
  rintro e w1 ⟨rfl, hb⟩
  have HB := Lib.hid hb
  have HR1 := Lib.hid (HR.out.below hb (Nat.le_refl _))
  clear hb
  go_wp2_with fail
  refine (least_run _ n c zs _ HR1.out HLN.out h1 h2).mono ?_
  rintro e w2 ⟨rfl, hb2⟩
  have HB2 := Lib.hid (HB.out.trans (hb2.mono HB.out.size))
  have HR2 := Lib.hid (HR1.out.below hb2 (Nat.le_refl _))
  obtain ⟨A, hAe⟩ : ∃ A, lst zs (n - 1) = A := ⟨_, rfl⟩
  rw [hAe] at hA HL1 HL2 ⊢
  clear hb2 hAe
  go_wp2_with fail
  rw [hk]
  have hck : ¬ c = k := by omega
  have hck' : c ≠ k := by omega
  have HTU : Hid (Calls Tryd.prog 15 #[.slice (some ⟨w2.heap.size, 0, none⟩) 2 2] (w2.alloc (.cells #[.slice (some ⟨b0, off + k, none⟩) (n - k) (c - k), .slice (some ⟨b0, off, none⟩) k c] 26)).drew fun e w' => Below (w2.alloc (.cells #[.slice (some ⟨b0, off + k, none⟩) (n - k) (c - k), .slice (some ⟨b0, off, none⟩) k c] 26)).drew.heap.size (w2.alloc (.cells #[.slice (some ⟨b0, off + k, none⟩) (n - k) (c - k), .slice (some ⟨b0, off, none⟩) k c] 26)).drew w' ∧ ∃ a c', e = .returned (.slice a n c') ∧ RdB w' (.slice a n c') (turn zs k)) := turn_any b0 off n c k w2.heap.size zs _ ((HR2.out.alloc _).drew) hkn h2 (cell_of_row _ _ 0 _ _ _ (heap_alloc_new w2 _)) (cell_of_row _ _ 1 _ _ _ (heap_alloc_new w2 _)) (by show w2.heap.size < (w2.alloc _).heap.size; simp)
  have HBa : Hid (Below w.heap.size w (w2.alloc (.cells #[.slice (some ⟨b0, off + k, none⟩) (n - k) (c - k), .slice (some ⟨b0, off, none⟩) k c] 26)).drew) := (HB2.out.alloc HB2.out.size _).drew
  have HRa : Hid (RdB (w2.alloc (.cells #[.slice (some ⟨b0, off + k, none⟩) (n - k) (c - k), .slice (some ⟨b0, off, none⟩) k c] 26)).drew (.slice (some ⟨b0, off, none⟩) n c) zs) := (HR2.out.alloc _).drew
  go_region_with (go_at_call 15; refine HTU.out.mono ?_; rintro e w3 ⟨hb3, am, cm, rfl, hrm⟩)
  have HB3 := Lib.hid (HBa.out.trans (hb3.mono HBa.out.size))
  have HR3 := Lib.hid (HRa.out.below hb3 (Nat.le_refl _))
  have HM3 := Lib.hid hrm
  obtain ⟨hlm, hcm, hmm⟩ := hrm.lenEq
  have HLM := Lib.hid hlm
  obtain ⟨bm, om, rfl, -, -⟩ := hrm.at (by omega)
  clear hb3 hrm hlm HTU HBa HRa
  go_wp2_with fail
  have hLm := HLE.out (turn zs k)
  have HLK := Lib.hid (HL1.out k hkn)
  refine (least_run _ n cm (turn zs k) _ HM3.out HLM.out h1 h2).mono ?_
  rintro e w4 ⟨rfl, hb4⟩
  have HB4 := Lib.hid (HB3.out.trans (hb4.mono HB3.out.size))
  have HR4 := Lib.hid (HR3.out.below hb4 (Nat.le_refl _))
  have HM4 := Lib.hid (HM3.out.below hb4 (Nat.le_refl _))
  obtain ⟨B, hBe⟩ : ∃ B, lst (turn zs k) (n - 1) = B := ⟨_, rfl⟩
  rw [hBe] at hLm HLK ⊢
  have q1 : decide ((A : Int) < 0) = false := decide_eq_false (by omega)
  have q2 : decide ((B : Int) < 0) = false := decide_eq_false (by omega)
  have q3 : decide ((n : Int) ≤ (A : Int)) = false := decide_eq_false (by omega)
  have q4 : decide ((n : Int) ≤ (B : Int)) = false := decide_eq_false (by omega)
  have q5 : decide (n ≤ A) = false := decide_eq_false (by omega)
  have q6 : decide (n ≤ B) = false := decide_eq_false (by omega)
  clear hb4 hBe
  go_wp2_with fail
  have hA' : A < n := by omega
  have hB' : B < n := by omega
  have hAI : (A : Int) ≤ (n : Int) := by omega
  have hBI : (B : Int) ≤ (n : Int) := by omega
  have hA0 : (0 : Int) ≤ (A : Int) := by omega
  have hAc : (A : Int) ≤ (c : Int) := by omega
  have hBc : (B : Int) ≤ (cm : Int) := by omega
  have hB0 : (0 : Int) ≤ (B : Int) := by omega
  have hcI : (n : Int) ≤ (c : Int) := by omega
  have hcmI : (n : Int) ≤ (cm : Int) := by omega
  have hck2 : ¬ c = A := by omega
  have hck3 : ¬ cm = B := by omega
  have hck4 : c ≠ A := by omega
  have hck5 : cm ≠ B := by omega
  have H1 : Hid (∀ (X : World) (b : Nat), Below w4.heap.size w4 X → X.heap[b]? = some (.cells #[.slice (some ⟨b0, off + A, none⟩) (n - A) (c - A), .slice (some ⟨b0, off, none⟩) A c] 26 (0, 0)) → Calls Tryd.prog 15 #[.slice (some ⟨b, 0, none⟩) 2 2] X fun e w' => Below X.heap.size X w' ∧ ∃ a c', e = .returned (.slice a n c') ∧ RdB w' (.slice a n c') (turn zs A)) := fun X b hB hK =>
    turn_any b0 off n c A b zs X (HR4.out.below hB (Nat.le_refl _)) hA' h2 (cell_of_row _ _ 0 _ _ _ hK) (cell_of_row _ _ 1 _ _ _ hK) (lt_of_block hK)
  have H2 : Hid (∀ (X : World) (b : Nat), Below w4.heap.size w4 X → X.heap[b]? = some (.cells #[.slice (some ⟨bm, om + B, none⟩) (n - B) (cm - B), .slice (some ⟨bm, om, none⟩) B cm] 26 (0, 0)) → Calls Tryd.prog 15 #[.slice (some ⟨b, 0, none⟩) 2 2] X fun e w' => Below X.heap.size X w' ∧ ∃ a c', e = .returned (.slice a n c') ∧ RdB w' (.slice a n c') (turn (turn zs k) B)) := fun X b hB hK =>
    turn_any bm om n cm B b (turn zs k) X (HM4.out.below hB (Nat.le_refl _)) hB' h2 (cell_of_row _ _ 0 _ _ _ hK) (cell_of_row _ _ 1 _ _ _ hK) (lt_of_block hK)
  go_cut [11, 12] (fun v1 v2 wx => ∃ a1 c1 a2 c2, v1 = .slice a1 n c1 ∧ v2 = .slice a2 n c2 ∧ Hid (RdB wx (.slice a1 n c1) (turn zs A)) ∧ Hid (RdB wx (.slice a2 n c2) (turn (turn zs k) B)) ∧ Hid (Below w4.heap.size w4 wx))
  case first =>
    go_region_held3 (fun _ => True) (trivial) (first
      | (go_at_call 15; (with_reducible refine (H1.out _ _ (bw1 _ _) (kw1 _ _)).mono ?_); rintro e w5 ⟨hb5, a5, c5, rfl, hr5⟩; (have hB5 : Below w4.heap.size w4 w5 := (bw1 _ _).trans (hb5.mono (bw1 _ _).size)))
      | (go_at_call 15; (with_reducible refine (H1.out _ _ (bw2 _ _ _) (kw2 _ _ _)).mono ?_); rintro e w5 ⟨hb5, a5, c5, rfl, hr5⟩; (have hk5 := (hb5.block _ (lw2 _ _ _)).trans (kw2' _ _ _)); (have hB5 : Below w4.heap.size w4 w5 := (bw2 _ _ _).trans (hb5.mono (bw2 _ _ _).size)))
      | (go_at_call 15; (with_reducible refine (H1.out _ _ (bw2 _ _ _) (kw2' _ _ _)).mono ?_); rintro e w5 ⟨hb5, a5, c5, rfl, hr5⟩; (have hk5 := (hb5.block _ (lw2' _ _ _)).trans (kw2 _ _ _)); (have hB5 : Below w4.heap.size w4 w5 := (bw2 _ _ _).trans (hb5.mono (bw2 _ _ _).size)))
      | (go_at_call 15; (with_reducible refine (H2.out _ _ (hB5.alloc hB5.size _) (heap_alloc_new w5 _)).mono ?_); rintro e w6 ⟨hb6, a6, c6, rfl, hr6⟩; (have hB6 : Below w4.heap.size w4 w6 := (hB5.alloc hB5.size _).trans (hb6.mono (by simp; exact Nat.le_succ_of_le hB5.size))); (have hr56 : RdB w6 (.slice a5 n c5) (turn zs A) := (hr5.alloc _).below hb6 (Nat.le_refl _)))
      | (go_at_call 15; (with_reducible refine (H2.out _ _ hB5 hk5).mono ?_); rintro e w6 ⟨hb6, a6, c6, rfl, hr6⟩; (have hB6 : Below w4.heap.size w4 w6 := hB5.trans (hb6.mono hB5.size)); (have hr56 : RdB w6 (.slice a5 n c5) (turn zs A) := hr5.below hb6 (Nat.le_refl _)))
)
    all_goals
      go_wp2_with fail
      go_meet
      exact ⟨_, _, _, _, rfl, rfl, hr56, hr6, hB6⟩
  case rest =>
    obtain ⟨a1, c1, a2, c2, rfl, rfl, HX1, HX2, HBc⟩ := hcut
    have HBw := Lib.hid (HB4.out.trans (HBc.out.mono HB4.out.size))
    have HRc := Lib.hid (HR4.out.below HBc.out (Nat.le_refl _))
    have HTA : Hid (decide (turn zs A = turn (turn zs k) B) = true) := decide_eq_true HLK.out
    go_wp2_with fail
    refine (equalB_any _ _ _ _ _ HX1.out HX2.out).mono ?_
    rintro e w7 ⟨rfl, hb7⟩
    rw [HTA.out]
    have HB7 := Lib.hid (HBw.out.trans (hb7.mono HBw.out.size))
    have HR7 := Lib.hid (HRc.out.below hb7 (Nat.le_refl _))
    have HX7 := Lib.hid (HX1.out.below hb7 (Nat.le_refl _))
    clear hb7
    go_wp2_with fail
    refine (xless_any _ _ n _ _ _ _ _ HR7.out HX7.out h1).mono ?_
    rintro e w8 ⟨rfl, hb8⟩
    rw [HL2.out]
    have HB8 := Lib.hid (HB7.out.trans (hb8.mono HB7.out.size))
    clear hb8
    go_wp2_with fail
    go_ret
    exact ⟨rfl, HB8.out⟩
theorem err (a0 : Option Addr) (n c : Nat) (zs : List Bool) (by' : Int) (w : World) (hT : TabAt w) (h : n < 1 ∨ 400 < n) :
    Calls Tryd.prog 5 #[.slice a0 n c, .int .i64 by'] w fun e w' => e = .returned (.bool true) ∧ Below w.heap.size w w' := by
  have HT := Lib.hid hT
  have H := Lib.hid h
  clear hT h
  go_enter Tryd.func5, Tryd.ntmps5
  go_wp2_with fail
  refine (alive_any w HT.out).mono ?_
  rintro e w1 ⟨rfl, hb⟩
  have HB := Lib.hid hb
  clear hb
  go_wp2_with fail
  refine (least_err a0 n c zs _ H.out).mono ?_
  rintro e w2 ⟨rfl, hb2⟩
  have HB2 := Lib.hid (HB.out.trans (hb2.mono HB.out.size))
  clear hb2
  go_wp2_with fail
  go_ret
  exact ⟨rfl, HB2.out⟩
theorem walk (a0 : Option Addr) (n c : Nat) (zs : List Bool) (a1 : Int) (w : World) (hT : TabAt w) (w0 : IsRowB w a0 n c zs) (w1 : (Lit.int .i64 a1).wf = true) :
    Calls Tryd.prog 5 #[.slice a0 n c, .int .i64 a1] w fun e w' => e = .returned (.bool true) ∧ Below w.heap.size w w' := by
  by_cases h : 1 ≤ n ∧ n ≤ 400
  · exact run a0 n c zs a1 w hT w0.rd h.1 h.2 w1
  · exact err a0 n c zs a1 w hT (by omega)
end Go.Proofs.YtoinpfcmolkhiaaDoor.grayLeast
