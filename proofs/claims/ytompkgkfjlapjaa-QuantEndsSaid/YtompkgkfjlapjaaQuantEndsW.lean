/- The walk of QuantEnds. Condition: rows within the reach. -/
import Derived.Test.YtompkgkfjlapjaaQuantTrueW
import Derived.Test.YtompkgkfjlapjaaMinMax
import Derived.Deep.RegionHeld3
set_option linter.unusedSimpArgs false
set_option linter.unusedVariables false
namespace Go.Proofs.Ytompkgkfjlapjaa.quantEnds
open Go.RowKit Go.Proofs.Ytompkgkfjlapjaa
theorem getD_mem' (zs : List Int) (k : Nat) (h : k < zs.length) : zs.getD k 0 ∈ zs := by
  rw [List.getD_eq_getElem?_getD, List.getElem?_eq_getElem h]; exact List.getElem_mem h
theorem mem_getD {zs : List Int} {x : Int} (h : x ∈ zs) : ∃ k, k < zs.length ∧ zs.getD k 0 = x := by
  obtain ⟨k, hk, rfl⟩ := List.mem_iff_getElem.1 h
  exact ⟨k, hk, by rw [List.getD_eq_getElem?_getD, List.getElem?_eq_getElem hk]; rfl⟩
theorem first_min {p : Int} {zs : List Int} {l : List Rk} (h : Inv p zs l) (h0 : 0 < l.length) : (l.getD 0 default).N ∈ zs ∧ ∀ x ∈ zs, (l.getD 0 default).N ≤ x := by
  obtain ⟨q1, q2, q3, q4⟩ := quantTrue.low_at h.low 0 h0
  have hd := h.head (l.getD 0 default) (by
    rw [List.head?_eq_getElem?, List.getD_eq_getElem?_getD, List.getElem?_eq_getElem h0]; rfl)
  rw [cnt_succ l 0 h0] at q2
  simp only [List.take_zero, cnt] at q2
  have hz : clt zs (l.getD 0 default).N ≤ 0 := by omega
  refine ⟨q4, fun x hx => Int.not_lt.1 fun hlt => ?_⟩
  have : 0 < zs.countP fun y => decide (y < (l.getD 0 default).N) := List.countP_pos_iff.2 ⟨x, hx, by simpa using hlt⟩
  unfold clt at hz
  omega
theorem last_max {p : Int} {zs : List Int} {l : List Rk} (h : Inv p zs l) (k : Nat) (h0 : k + 1 = l.length) : (l.getD k default).N ∈ zs ∧ ∀ x ∈ zs, x ≤ (l.getD k default).N := by
  obtain ⟨q1, q2, q3, q4⟩ := quantTrue.low_at h.low k (by omega)
  rw [List.take_of_length_le (by omega), h.all] at q1
  refine ⟨q4, fun x hx => ?_⟩
  unfold cle at q1
  have h1 : zs.countP (fun y => decide (y ≤ (l.getD k default).N)) = zs.length := by
    have := List.countP_le_length (p := fun y => decide (y ≤ (l.getD k default).N)) (l := zs)
    omega
  have := List.countP_eq_length.1 h1 x hx
  simpa using this
set_option maxHeartbeats 1600000 in
theorem run (p : Int) (v : Value) (zs : List Int) (w : World) (h : Rd w v zs) (hr : zs.length * 8 ≤ 140737488351232) :
    Calls Try.prog 4 #[.int .i64 p, v] w fun e w' => e = .returned (.bool true) ∧ Below w.heap.size w w' := by
  obtain ⟨a, cap, rfl, hlc, hcm, hop⟩ := h.open
  have HR := Lib.hid h
  generalize hn : zs.length = n at *
  have HN := Lib.hid hn
  have hnb : n ≤ 17592186043904 := by omega
  clear h hop hn hr
  go_enter Try.func4, Try.ntmps4
  go_wp2_with fail
  refine (alive_any w).mono ?_
  rintro e w1 ⟨rfl, hb1⟩
  have HB1 := Lib.hid hb1
  have HAL := Lib.hid (all_any p _ zs w1 (HR.out.below hb1 (Nat.le_refl _)))
  clear hb1
  go_wp2_with fail
  refine HAL.out.mono ?_
  rintro e w2 ⟨hb2, ⟨hp1, hp2, l, v', -, rfl, ho, hinv, hl4, hc4⟩ | ⟨-, er, hne, rfl⟩⟩
  · have HB2 := Lib.hid (HB1.out.trans (hb2.mono HB1.out.size))
    obtain ⟨a', cap', rfl, -⟩ := ho.open
    generalize hln : l.length = m at *
    have HO := Lib.hid ho
    have HI := Lib.hid hinv
    have HLN := Lib.hid hln
    have HC4 := Lib.hid hc4
    have HALL : Hid (cnt l = n) := by show _ = _; rw [hinv.all, HN.out]
    clear hb2 ho hinv hln hc4 HAL
    have t0 : ((0 : Int) != 0) = false := rfl
    rcases Nat.eq_zero_or_pos n with h0 | h0
    · have hm : m = 0 := by
        have := cnt_nn HI.out.gap
        rw [HALL.out, HLN.out] at this
        omega
      subst hm
      subst h0
      go_wp2_with fail
      go_ret
      exact ⟨rfl, HB2.out⟩
    · have hm0 : 0 < m := by
        rcases Nat.eq_zero_or_pos m with h1 | h1
        · exfalso
          have e1 := HLN.out
          rw [h1] at e1
          have e2 : l = [] := List.length_eq_zero_iff.1 e1
          have e3 := HALL.out
          rw [e2] at e3
          simp only [cnt] at e3
          omega
        · exact h1
      have n0 : ((n : Int) == 0) = false := by rw [beq_eq_false_iff_ne]; omega
      have m0 : decide ((0 : Int) < (m : Int)) = true := decide_eq_true (by omega)
      have m0' : decide (0 < m) = true := decide_eq_true hm0
      have m0'' : (0 : Int) < (m : Int) := by omega
      obtain ⟨g, rfl, -, hgs, hcell⟩ := HO.out.at hm0
      obtain ⟨c0, -, -⟩ := hcell 0 hm0
      rw [Nat.zero_mul] at c0
      obtain ⟨k, hk⟩ : ∃ k, m = k + 1 := ⟨m - 1, by omega⟩
      obtain ⟨d0, -, -⟩ := hcell k (by omega)
      have hkI : (m : Int) - 1 = (k : Int) := by omega
      have HKI := Lib.hid hkI
      have p1 : (0 ≤ (k : Int) ∧ (k : Int) < (m : Int)) = True := eq_true ⟨by omega, by omega⟩
      have hkl : k + 1 = l.length := by rw [HLN.out]; exact hk.symm
      obtain ⟨f1, f2⟩ := first_min HI.out (by rw [HLN.out]; exact hm0)
      obtain ⟨f3, f4⟩ := last_max HI.out k hkl
      have HMIN : Hid (∀ X, Below w2.heap.size w2 X → Calls Try.prog 9 #[.slice a n cap] X fun e w' => e = .returned (.int .i64 (l.getD 0 default).N) ∧ X = w') := by
        intro X hX
        refine (min_any _ zs X (HR.out.below (HB2.out.trans (hX.mono HB2.out.size)) (Nat.le_refl _)) (by rw [HN.out]; exact h0)).mono ?_
        rintro e w' ⟨mm, rfl, h1, ⟨j, hj, h2⟩, h3⟩
        obtain ⟨j', hj', h4⟩ := mem_getD f1
        have h5 := h1 j' hj'
        have h6 := f2 _ (getD_mem' zs j hj)
        exact ⟨by congr 2; omega, h3⟩
      have HMAX : Hid (∀ X, Below w2.heap.size w2 X → Calls Try.prog 10 #[.slice a n cap] X fun e w' => e = .returned (.int .i64 (l.getD k default).N) ∧ X = w') := by
        intro X hX
        refine (max_any _ zs X (HR.out.below (HB2.out.trans (hX.mono HB2.out.size)) (Nat.le_refl _)) (by rw [HN.out]; exact h0)).mono ?_
        rintro e w' ⟨mm, rfl, h1, ⟨j, hj, h2⟩, h3⟩
        obtain ⟨j', hj', h4⟩ := mem_getD f3
        have h5 := h1 j' hj'
        have h6 := f4 _ (getD_mem' zs j hj)
        exact ⟨by congr 2; omega, h3⟩
      have HCN : Hid (∀ X, Below w2.heap.size w2 X → Calls Try.prog 11 #[.slice (some ⟨g, 0, none⟩) m cap'] X fun e w' => e = .returned (.int .i64 (n : Int)) ∧ Below X.heap.size X w') := fun X hX => by
        have := count_any _ m cap' _ l X (HO.out.below hX (Nat.le_refl _)) HLN.out HI.out.gap HC4.out
        rw [HALL.out] at this
        exact this
      have SB : Hid (∀ X, Below w2.heap.size w2 X → X.cell? ⟨g, 0, none⟩ = some (.int .i64 (l.getD 0 default).N) ∧ X.cell? ⟨g, k * 3, none⟩ = some (.int .i64 (l.getD k default).N)) := fun X hX =>
        ⟨(World.cell?_of_block (hX.block g hgs)).trans c0, (World.cell?_of_block (hX.block g hgs)).trans d0⟩
      have HRI : Hid (∀ w3, Below w2.heap.size w2 w3 → Calls Try.prog 12 #[.int .i64 p, .slice (some ⟨g, 0, none⟩) m cap'] w3 fun e w' => e = .returned (.bool true) ∧ Below w3.heap.size w3 w') := fun w3 hb3 =>
        right_any p _ m cap' _ l w3 (HO.out.below hb3 (Nat.le_refl _)) HLN.out (HI.out.right hp1 hp2 (by rw [HLN.out]; exact hl4) HC4.out)
      clear hcell f1 f2 f3 f4 hkl hk hkI
      generalize (l.getD 0 default).N = N0 at *
      generalize (l.getD k default).N = N1 at *
      go_wp2_with fail
      have hkw : IntKind.i64.wrap ((m : Int) - 1) = (k : Int) := by rw [IntKind.wrap_i64]; have := HKI.out; omega
      have hkI := HKI.out
      have hkk : IntKind.i64.wrap (k : Int) = (k : Int) := by rw [IntKind.wrap_i64]; omega
      have q1 : (k : Int) < (m : Int) := by omega
      have q2 : k < m := by omega
      have q3 : ((k : Int) < (m : Int)) = True := eq_true q1
      have q4 : (k < m) = True := eq_true q2
      have q5 : (0 ≤ (k : Int)) = True := eq_true (by omega)
      have hbr : Below w2.heap.size w2 w2.drew := (Below.refl _ _).drew
      have hbr0 : Below w2.heap.size w2 w2 := Below.refl _ _
      go_region_held3 (fun X => X.cell? ⟨g, 0, none⟩ = some (.int .i64 N0) ∧ X.cell? ⟨g, k * 3, none⟩ = some (.int .i64 N1)) (first | exact ⟨c0, d0⟩ | exact SB.out _ (by assumption)) (first
        | (go_at_call 9; (with_reducible refine (HMIN.out _ (by assumption)).mono ?_); rintro e w3 ⟨rfl, rfl⟩)
        | (go_at_call 10; (with_reducible refine (HMAX.out _ (by assumption)).mono ?_); rintro e w3 ⟨rfl, rfl⟩)
        | (go_at_call 11; (with_reducible refine (HCN.out _ (by assumption)).mono ?_); rintro e w3 ⟨rfl, hb3⟩; have hb3' : Below w2.heap.size w2 w3 := hbr.trans hb3)
        | (go_at_call 12; (with_reducible refine (HRI.out _ (by assumption)).mono ?_); rintro e w4 ⟨rfl, hb4⟩; have hb4' : Below w2.heap.size w2 w4 := hb3'.trans (hb4.mono hb3'.size)))
      go_wp2_with fail
      go_ret
      exact ⟨rfl, HB2.out.trans (hb4'.mono HB2.out.size)⟩
  · have HB2 := Lib.hid (HB1.out.trans (hb2.mono HB1.out.size))
    have hn1 : ((er : Int) != 0) = true := by rw [bne_iff_ne]; omega
    clear hb2 hne HAL
    go_wp2_with fail
    go_ret
    exact ⟨rfl, HB2.out⟩
theorem walk (p : Int) (a1 : Option Addr) (len1 cap1 : Nat) (z1 : List Int) (w : World) (w0 : (Lit.int .i64 p).wf = true) (w1 : IsRow .i64 w a1 len1 cap1 z1) (r1 : len1 * 8 ≤ 140737488351232) :
    Calls Try.prog 4 #[.int .i64 p, .slice a1 len1 cap1] w fun e w' => e = .returned (.bool true) ∧ Below w.heap.size w w' := by
  obtain ⟨h1, g1⟩ := w1.rd
  have hl : (z1.take len1).length = len1 := by
    obtain ⟨a', c', he, -⟩ := h1.open
    injection he with _ h5 _
    exact h5.symm
  exact run p _ _ w h1 (by rw [hl]; exact r1)
end Go.Proofs.Ytompkgkfjlapjaa.quantEnds
