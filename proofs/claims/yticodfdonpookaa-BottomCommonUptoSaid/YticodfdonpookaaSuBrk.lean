/- breakPatternsOrdered[uint64]: it permutes within the range. Condition: indices within the row, a range of more than twelve. -/
import Derived.Test.YticodfdonpookaaSuXor
import Derived.Deep.DeepCutAuto
import Derived.Deep.CutBlock
set_option linter.unusedSimpArgs false
set_option linter.unusedVariables false
set_option maxRecDepth 20000
namespace Go.Proofs.Yticodfdonpookaa.Su
open Go.RowKit Go.Sort
theorem XV.new {w w' : World} {blk off : Nat} {d : Array Int} (h : SU w w' blk off d) (x : Nat) (hx : x < 18446744073709551616) (T : TypeId) : XV w (w'.alloc (.cells #[.int .u64 (x : Int)] T)) blk off d w'.heap.size x := by
  refine ⟨h.alloc _, h.size, ?_, ?_, hx⟩
  · rw [cell_of_row _ _ _ _ _ _ (heap_alloc_new w' _)]; rfl
  · exact frozen_of_row _ _ _ _ _ (heap_alloc_new w' _)
set_option maxHeartbeats 3200000 in
theorem brk_any (blk off cap : Nat) (d : Array Int) (L a b : Nat) (w : World) (hH : Holds eu w blk off d) (hb : blk < w.heap.size) (hL : d.size = L) (hbL : b ≤ L) (hab : a + 12 < b) (hL2 : L < 4611686018427387904) :
    Calls Try.prog 52 #[.slice (some ⟨blk, off, none⟩) L cap, .int .i64 (a : Int), .int .i64 (b : Int)] w fun e w' => e = .returned (.tuple #[]) ∧ ∃ d', SU w w' blk off d' ∧ PermIn a b d d' := by
  have HS0 := Lib.hid (SU.refl hH)
  have HH := Lib.hid hH
  have HL := Lib.hid hL
  clear hH hL
  obtain ⟨l, hl⟩ : ∃ l, b - a = l := ⟨_, rfl⟩
  have hlI : (b : Int) - (a : Int) = (l : Int) := by omega
  have h8 : (8 : Int) ≤ (l : Int) := by omega
  obtain ⟨q, hq⟩ : ∃ q, l / 4 = q := ⟨_, rfl⟩
  have hqI : (l : Int) / 4 = (q : Int) := by omega
  have hqT : (l : Int).tdiv 4 = (q : Int) := by rw [Int.tdiv_eq_ediv_of_nonneg (by omega)]; exact hqI
  have w1 : IntKind.i64.wrap (l : Int) = (l : Int) := wr64 (by omega)
  have w2 : IntKind.i64.wrap (q : Int) = (q : Int) := wr64 (by omega)
  have w3 : IntKind.i64.wrap ((q : Int) * 2) = (q : Int) * 2 := wr64 (by omega)
  obtain ⟨m, hm⟩ : ∃ m, a + q * 2 = m := ⟨_, rfl⟩
  have hmI : (a : Int) + (q : Int) * 2 = (m : Int) := by omega
  obtain ⟨i0, hi0⟩ : ∃ i0, m - 1 = i0 := ⟨_, rfl⟩
  have hi0I : (m : Int) - 1 = (i0 : Int) := by omega
  have w4 : IntKind.i64.wrap (m : Int) = (m : Int) := wr64 (by omega)
  have w5 : IntKind.i64.wrap ((m : Int) + 1) = (m : Int) + 1 := wr64 (by omega)
  have w6 : IntKind.i64.wrap (i0 : Int) = (i0 : Int) := wr64 (by omega)
  have wu : IntKind.u64.wrap (l : Int) = (l : Int) := by rw [IntKind.wrap_u64]; omega
  have HPW : Hid (∀ W, Calls Try.prog 60 #[.int .i64 (l : Int)] W fun e w' => (∃ M : Nat, e = .returned (.int .u64 (M : Int)) ∧ 1 ≤ M ∧ M ≤ 2 * l) ∧ w' = W) := fun W => pow_any l W (by omega) (by omega)
  have HX0 := Lib.hid (XV.new HS0.out l (by omega) 77)
  clear HS0
  go_enter Try.func52, Try.ntmps52
  go_wp2_with fail
  refine (HPW.out _).mono ?_
  rintro e w' ⟨⟨M, rfl, hM1, hM2⟩, rfl⟩
  have wM : IntKind.u64.wrap ((M : Int) - 1) = (M : Int) - 1 := by rw [IntKind.wrap_u64]; omega
  go_wp2_with fail
  generalize w.alloc _ = wA at *
  go_loopw [9] (fun iv wr => ∃ (i x : Nat) (dj : Array Int), iv = .int .i64 (i : Int) ∧ i0 ≤ i ∧ i ≤ m + 2 ∧ Hid (dj.size = L) ∧ Hid (PermIn a b d dj) ∧ Hid (XV w wr blk off dj w.heap.size x)) (fun iv _ => m + 2 - (intOf iv).toNat)
  case atStart => exact ⟨i0, l, d, rfl, by omega, by omega, HL.out, permIn_refl _ _ _, HX0.out⟩
  case round =>
    clear HX0
    obtain ⟨i, x, dj, rfl, hi, him, HD, HP, HX⟩ := hrel
    by_cases hend : i ≤ m + 1
    · have hendI : (i : Int) ≤ (m : Int) + 1 := by omega
      have wi : IntKind.i64.wrap ((i : Int) + 1) = (i : Int) + 1 := wr64 (by omega)
      have HN := Lib.hid (next_any blk off dj w.heap.size x w wr HX.out)
      obtain ⟨wo, rfl⟩ : ∃ wo : World, wo = wr := ⟨_, rfl⟩
      go_wp2_with fail
      refine HN.out.mono ?_
      rintro e w1 ⟨y, rfl, hy, h1⟩
      have HX1 := Lib.hid h1
      clear h1 HN HX
      obtain ⟨o, ho⟩ : ∃ o, y &&& (M - 1) = o := ⟨_, rfl⟩
      have hoI : bits .and .u64 (y : Int) ((M : Int) - 1) = (o : Int) := by
        rw [show ((M : Int) - 1) = ((M - 1 : Nat) : Int) by omega, bits_and_u64_nat _ _ hy (by omega), ho]
      have hol : o ≤ M - 1 := by rw [← ho]; exact Nat.and_le_right
      have wo : IntKind.i64.wrap (o : Int) = (o : Int) := wr64 (by omega)
      go_upto_if 43 with (fail)
      go_cut [10] (fun ov wx => ∃ o : Nat, ov = .int .i64 (o : Int) ∧ o < l ∧ Hid (XV w wx blk off dj w.heap.size y))
      case first =>
        by_cases hge : l ≤ o
        · have hgeI : (l : Int) ≤ (o : Int) := by omega
          have hd : (o : Int) - (l : Int) = ((o - l : Nat) : Int) := by omega
          have wd : IntKind.i64.wrap ((o : Int) - (l : Int)) = (o : Int) - (l : Int) := wr64 (by omega)
          go_wp2_with fail
          go_meet
          exact ⟨o - l, by congr 1, by omega, HX1.out⟩
        · have hgeI : ¬ (l : Int) ≤ (o : Int) := by omega
          go_wp2_with fail
          go_meet
          exact ⟨o, rfl, by omega, HX1.out⟩
      case rest =>
        clear ho hoI hol wo
        obtain ⟨o, rfl, hol, HX2⟩ := hcut
        clear HX1
        obtain ⟨f, hf⟩ : ∃ f, a + o = f := ⟨_, rfl⟩
        have hfI : (a : Int) + (o : Int) = (f : Int) := by omega
        have wf : IntKind.i64.wrap (f : Int) = (f : Int) := wr64 (by omega)
        obtain ⟨ci, fi⟩ := HX2.out.1.cell HH.out (by rw [HD.out, HL.out]) hb i (by rw [HD.out]; omega)
        obtain ⟨cj, fj⟩ := HX2.out.1.cell HH.out (by rw [HD.out, HL.out]) hb f (by rw [HD.out]; omega)
        have HSW := Lib.hid (HX2.out.swp hb i f (by rw [HD.out]; omega) (by rw [HD.out]; omega))
        have HP2 : Hid (PermIn a b d (swp dj i f)) := permIn_trans _ _ _ _ _ HP.out (swp_permIn dj a b i f (by omega) (by omega) (by omega) (by omega) (by rw [HD.out]; omega))
        have HD2 : Hid ((swp dj i f).size = L) := by show _ = _; rw [swp_size]; exact HD.out
        generalize dj[i]! = xx at ci cj HSW
        generalize dj[f]! = yy at ci cj HSW
        generalize swp dj i f = d2 at *
        go_wp2_with fail
        by_cases hfa : i = f
        · subst hfa
          have e2 : xx = yy := by rw [ci] at cj; injection cj with h; injection h
          subst e2
          go_region
          clear ci fi cj fj
          go_wp2_with fail
          go_roundw
          case rel => exact ⟨i + 1, y, d2, by go_num, by omega, by omega, HD2.out, HP2.out, HSW.out.drew⟩
          case measure => simp [intOf]; omega
        · have hne : ¬ i = f := hfa
          go_region
          clear ci fi cj fj
          go_wp2_with fail
          go_roundw
          case rel => exact ⟨i + 1, y, d2, by go_num, by omega, by omega, HD2.out, HP2.out, HSW.out.drew⟩
          case measure => simp [intOf]; omega
    · have hendI : ¬ (i : Int) ≤ (m : Int) + 1 := by omega
      go_wp2_with fail
      exact bodyPost_end (results_none rfl _ _ _) rfl ⟨rfl, dj, HX.out.1, HP.out⟩
end Go.Proofs.Yticodfdonpookaa.Su
