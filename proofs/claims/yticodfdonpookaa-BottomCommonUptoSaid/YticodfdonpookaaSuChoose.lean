/- choosePivotOrdered[uint64]: it computes the plain one. Condition: indices within the row. -/
import Derived.Test.YticodfdonpookaaSuPiv
set_option linter.unusedSimpArgs false
set_option linter.unusedVariables false
set_option maxRecDepth 20000
namespace Go.Proofs.Yticodfdonpookaa.Su
open Go.RowKit Go.Sort
def hintI : Hint → Int
  | .unknown => 0
  | .increasing => 1
  | .decreasing => 2
theorem adj_bd (d : Array Int) (a s L : Nat) (h1 : 1 ≤ a) (ha : a + 1 < L) : (medianAdjacent ltInt d a s).1 < L ∧ (medianAdjacent ltInt d a s).2 ≤ s + 3 := by
  have h := med_bd d (a - 1) a (a + 1) s L (by omega) (by omega) ha
  exact h
theorem PV.new (w : World) (T : TypeId) : PV w (w.alloc (.cells #[.int .i64 0] T)) w.heap.size 0 := by
  refine ⟨⟨0, #[.cells #[.int .i64 0] T], alloc_eq_grow _ _⟩, Nat.le_refl _, ?_, ?_⟩
  · rw [cell_of_row _ _ _ _ _ _ (heap_alloc_new w _)]; rfl
  · exact frozen_of_row _ _ _ _ _ (heap_alloc_new w _)
set_option maxHeartbeats 1600000 in
theorem choose_any (blk off cap : Nat) (d : Array Int) (L a b : Nat) (w : World) (hH : Holds eu w blk off d) (hb : blk < w.heap.size) (hL : d.size = L) (hbL : b ≤ L) (hab : a + 12 < b) (hL2 : L < 4611686018427387904) :
    Calls Try.prog 53 #[.slice (some ⟨blk, off, none⟩) L cap, .int .i64 (a : Int), .int .i64 (b : Int)] w fun e w' => e = .returned (.tuple #[.int .i64 ((choosePivot ltInt d a b).1 : Nat), .int .i64 (hintI (choosePivot ltInt d a b).2)]) ∧ ∃ n os, w' = grow (Sort.ahead w n) os := by
  obtain ⟨l, hl⟩ : ∃ l, b - a = l := ⟨_, rfl⟩
  have hlI : (b : Int) - (a : Int) = (l : Int) := by omega
  obtain ⟨q, hq⟩ : ∃ q, l / 4 = q := ⟨_, rfl⟩
  have hqI : (l : Int) / 4 = (q : Int) := by omega
  have hqT : (l : Int).tdiv 4 = (q : Int) := by rw [Int.tdiv_eq_ediv_of_nonneg (by omega)]; exact hqI
  have w1 : IntKind.i64.wrap (l : Int) = (l : Int) := wr64 (by omega)
  have w2 : IntKind.i64.wrap (q : Int) = (q : Int) := wr64 (by omega)
  have HP := Lib.hid (PV.new w 3)
  obtain ⟨i, hi⟩ : ∃ i, a + q = i := ⟨_, rfl⟩
  obtain ⟨j, hj⟩ : ∃ j, a + q * 2 = j := ⟨_, rfl⟩
  obtain ⟨k, hk⟩ : ∃ k, a + q * 3 = k := ⟨_, rfl⟩
  have hiI : (a : Int) + (q : Int) = (i : Int) := by omega
  have hjI : (a : Int) + (q : Int) * 2 = (j : Int) := by omega
  have hkI : (a : Int) + (q : Int) * 3 = (k : Int) := by omega
  have w3 : IntKind.i64.wrap ((q : Int) * 2) = (q : Int) * 2 := wr64 (by omega)
  have w4 : IntKind.i64.wrap ((q : Int) * 3) = (q : Int) * 3 := wr64 (by omega)
  have w5 : IntKind.i64.wrap (i : Int) = (i : Int) := wr64 (by omega)
  have w6 : IntKind.i64.wrap (j : Int) = (j : Int) := wr64 (by omega)
  have w7 : IntKind.i64.wrap (k : Int) = (k : Int) := wr64 (by omega)
  have h8 : (8 : Int) ≤ (l : Int) := by omega
  have HCP : Hid (∀ r : Nat × Nat, (if l ≥ 50 then median ltInt d (medianAdjacent ltInt d i 0).1 (medianAdjacent ltInt d j (medianAdjacent ltInt d i 0).2).1 (medianAdjacent ltInt d k (medianAdjacent ltInt d j (medianAdjacent ltInt d i 0).2).2).1 (medianAdjacent ltInt d k (medianAdjacent ltInt d j (medianAdjacent ltInt d i 0).2).2).2 else median ltInt d i j k 0) = r → choosePivot ltInt d a b = (r.1, if r.2 = 0 then .increasing else if r.2 = 12 then .decreasing else .unknown)) := fun r hr => by
    subst hr
    unfold choosePivot
    simp only [hl, hq, Nat.mul_one, hi, hj, hk]
    rw [if_pos (show l ≥ 8 by omega)]
  have HMED : Hid (∀ (W : World) (s x y z : Nat), PV w W w.heap.size s → x < L → y < L → z < L → s < 900 → Calls Try.prog 66 #[.slice (some ⟨blk, off, none⟩) L cap, .int .i64 (x : Int), .int .i64 (y : Int), .int .i64 (z : Int), .pointer (some ⟨w.heap.size, 0, none⟩)] W fun e w' => e = .returned (.int .i64 ((median ltInt d x y z s).1 : Nat)) ∧ PV w w' w.heap.size (median ltInt d x y z s).2) := fun W s x y z h1 h2 h3 h4 h5 => med_any blk off cap d L x y z w.heap.size s w W hH hb h1 hL h2 h3 h4 hL2 h5
  have HADJ : Hid (∀ (W : World) (s x : Nat), PV w W w.heap.size s → x + 1 < L → 1 ≤ x → s < 900 → Calls Try.prog 65 #[.slice (some ⟨blk, off, none⟩) L cap, .int .i64 (x : Int), .pointer (some ⟨w.heap.size, 0, none⟩)] W fun e w' => e = .returned (.int .i64 ((medianAdjacent ltInt d x s).1 : Nat)) ∧ PV w w' w.heap.size (medianAdjacent ltInt d x s).2) := fun W s x h1 h2 h3 h4 => adj_any blk off cap d L x w.heap.size s w W hH hb h1 hL h2 h3 hL2 h4
  clear hH
  by_cases h50 : 50 ≤ l
  · have h50I : (50 : Int) ≤ (l : Int) := by omega
    have HA := Lib.hid (HADJ.out _ 0 i HP.out (by omega) (by omega) (by decide))
    have HE0 := HCP.out _ (if_pos h50)
    have bA := adj_bd d i 0 L (by omega) (by omega)
    generalize medianAdjacent ltInt d i 0 = r1 at *
    obtain ⟨i', s1⟩ := r1
    have HA2 := fun W (h : PV w W w.heap.size s1) => HADJ.out W s1 j h (by omega) (by omega) (by simp at bA; omega)
    have bB := adj_bd d j s1 L (by omega) (by omega)
    simp only [] at HA2 HE0 bB
    generalize medianAdjacent ltInt d j s1 = r2 at *
    obtain ⟨j', s2⟩ := r2
    have HA3 := fun W (h : PV w W w.heap.size s2) => HADJ.out W s2 k h (by omega) (by omega) (by simp at bA bB; omega)
    have bC := adj_bd d k s2 L (by omega) (by omega)
    simp only [] at HA3 HE0 bC
    generalize medianAdjacent ltInt d k s2 = r3 at *
    obtain ⟨k', s3⟩ := r3
    simp only [] at HE0 bA bB bC
    have HA4 := fun W (h : PV w W w.heap.size s3) => HMED.out W s3 i' j' k' h (by omega) (by omega) (by omega) (by omega)
    have HE := Lib.hid HE0
    clear HE0
    generalize median ltInt d i' j' k' s3 = r at *
    obtain ⟨m, s⟩ := r
    simp only [] at HA2 HA3 HA4
    have HA2 := Lib.hid HA2
    have HA3 := Lib.hid HA3
    have HA4 := Lib.hid HA4
    clear bA bB bC
    go_enter Try.func53, Try.ntmps53
    go_wp2_with fail
    refine HA.out.mono ?_
    rintro e wa ⟨rfl, ha⟩
    have hda := ha.2.2.1
    have hda2 := ha.2.2.2
    have HPa := Lib.hid ha
    clear ha HA
    go_wp2_with fail
    refine (HA2.out _ HPa.out).mono ?_
    rintro e wb ⟨rfl, ha⟩
    have HPb := Lib.hid ha
    clear ha HA2 HPa hda hda2
    go_wp2_with fail
    refine (HA3.out _ HPb.out).mono ?_
    rintro e wc ⟨rfl, ha⟩
    have HPc := Lib.hid ha
    clear ha HA3 HPb
    go_wp2_with fail
    refine (HA4.out _ HPc.out).mono ?_
    rintro e w1 ⟨rfl, h1⟩
    have HP1 := Lib.hid h1
    clear h1 HA4 HPc
    have hcs := HP1.out.2.2.1
    by_cases hs0 : s = 0
    · subst hs0
      go_wp2_with fail
      go_ret2
      rw [HE.out]
      exact ⟨rfl, HP1.out.1⟩
    · have hs0I : ¬ (s : Int) = 0 := by omega
      have hs0B : ((s : Int) == 0) = false := beq_eq_false_iff_ne.mpr hs0I
      by_cases hs12 : s = 12
      · subst hs12
        go_wp2_with fail
        go_ret2
        rw [HE.out]
        exact ⟨rfl, HP1.out.1⟩
      · have hs12I : ¬ (s : Int) = 12 := by omega
        have hs12B : ((s : Int) == 12) = false := beq_eq_false_iff_ne.mpr hs12I
        go_wp2_with fail
        go_ret2
        rw [HE.out, if_neg (by omega), if_neg (by omega)]
        exact ⟨rfl, HP1.out.1⟩
  · have h50I : ¬ (50 : Int) ≤ (l : Int) := by omega
    have HC := Lib.hid (HMED.out _ 0 i j k HP.out (by omega) (by omega) (by omega) (by decide))
    have HE := Lib.hid (HCP.out _ (if_neg h50))
    generalize median ltInt d i j k 0 = r at *
    obtain ⟨m, s⟩ := r
    go_enter Try.func53, Try.ntmps53
    go_wp2_with fail
    refine HC.out.mono ?_
    rintro e w1 ⟨rfl, h1⟩
    have HP1 := Lib.hid h1
    clear h1 HC
    have hcs := HP1.out.2.2.1
    by_cases hs0 : s = 0
    · subst hs0
      go_wp2_with fail
      go_ret2
      rw [HE.out]
      exact ⟨rfl, HP1.out.1⟩
    · have hs0I : ¬ (s : Int) = 0 := by omega
      have hs0B : ((s : Int) == 0) = false := beq_eq_false_iff_ne.mpr hs0I
      by_cases hs12 : s = 12
      · subst hs12
        go_wp2_with fail
        go_ret2
        rw [HE.out]
        exact ⟨rfl, HP1.out.1⟩
      · have hs12I : ¬ (s : Int) = 12 := by omega
        have hs12B : ((s : Int) == 12) = false := beq_eq_false_iff_ne.mpr hs12I
        go_wp2_with fail
        go_ret2
        rw [HE.out, if_neg (by omega), if_neg (by omega)]
        exact ⟨rfl, HP1.out.1⟩
end Go.Proofs.Yticodfdonpookaa.Su
