/- slices.Insert of one into a row of one's own. Condition: it has at most 2^40. -/
import Derived.Test.YthaiopgmncnekaaGreatDoorQuInsL
import Derived.Shelf.Spec.SlicesInsert
import Derived.Lib.AppendZerosOnto
import Derived.Lib.Overlaps
import Derived.Laws.Externs
import Derived.Deep.RegionLaw
set_option linter.unusedSimpArgs false
set_option linter.unusedVariables false
set_option maxRecDepth 20000
namespace Go.Proofs.YthaiopgmncnekaaGreatDoor.Qu
open Go.RowKit
theorem size29 : (Tryz.prog.info? 43).map (·.size) = some 3 := by kernel_rfl
set_option maxHeartbeats 1600000 in
set_option maxRecDepth 20000 in
/-- There is room: in place. -/
theorem ins_room (g n cap base i vb : Nat) (l : List Rk) (r : Rk) (w : World) (h : Own w base (.slice (some ⟨g, 0, none⟩) n cap) l) (hn : l.length = n) (hi : i < n) (hroom : n + 1 ≤ cap) (hvb : vb ≠ g) (hv : w.heap[vb]? = some (.cells (rkC r).toArray 43 (0, 0))) :
    Calls Tryz.prog 24 #[.slice (some ⟨g, 0, none⟩) n cap, .int .i64 i, .slice (some ⟨vb, 0, none⟩) 1 1] w fun e w' => e = .returned (.slice (some ⟨g, 0, none⟩) (n + 1) cap) ∧ Own w' base (.slice (some ⟨g, 0, none⟩) (n + 1) cap) (insL l i r) ∧ w.grownBy w' (some g) := by
  obtain ⟨a', cap', he, hlc, hcm, hno, hso⟩ := h.open
  injection he with e1 e2 e3
  subst e1; subst e3
  obtain ⟨g', cur, he', hbg, hgs, hg, hcs, htk⟩ := hso _ rfl
  cases he'
  rw [hn] at htk
  have hcl : cur.toList.length = cap * 3 := by simpa using hcs
  have hD : (rkL (l.drop i)).length = (n - i) * 3 := by rw [rkL_len, List.length_drop, hn]
  have hov : ∀ lb cb, (callFunc 35 #[.slice (some ⟨vb, 0, none⟩) 1 1, .slice (some ⟨g, (i + 1) * 3, none⟩) lb cb]).run Tryz.prog w = .ok (.value (.bool false)) w := fun lb cb => by
    rw [run_callFunc_extern Tryz.func35 (by kernel_rfl) (by kernel_rfl) (by kernel_rfl) (e := Extern.SlicesOverlaps.overlaps #[26, 26] #[4]) (by kernel_rfl),
      Lib.run_overlaps_apart w 26 4 43 Tryz.underlying26 3 Tryz.sizeOf43 ⟨vb, 0, none⟩ ⟨g, (i + 1) * 3, none⟩ 1 1 lb cb hvb 43 43 3 (cap * 3) (by simp [World.shape?, hv, rkC]) (by simp [World.shape?, hg, hcs]) (by omega) (by simp [World.frozen?, hv]) (by simp [World.frozen?, hv])]
    rfl
  have hcells : ∀ j u, (rkL (l.drop i))[j]? = some u → w.cell? ((⟨g, i * 3, none⟩ : Addr).add j) = some u := fun j u hj => by
    have h4 := h.cells (g := g) rfl (i * 3 + j) u (by rw [← hj, ← rkL_drop, List.getElem?_drop])
    rw [Addr.add_lit] at h4 ⊢
    rw [← Nat.zero_add (i * 3), Nat.add_assoc]
    exact h4
  obtain ⟨cur1, hcur1⟩ : ∃ c, c = (splice cur.toList ((i + 1) * 3) (rkL (l.drop i))).toArray := ⟨_, rfl⟩
  have hcp1 : ∀ ty dc sc, (Builtin.copy_ #[26, 26] ty #[.slice (some ⟨g, (i + 1) * 3, none⟩) (n - i) dc, .slice (some ⟨g, i * 3, none⟩) (n + 1 - i) sc]).run Tryz.prog w.drew = .ok (goInt ((n - i : Nat) : Int)) (w.drew.setRow g cur1) := fun ty dc sc => by
    have hmin : Nat.min (n + 1 - i) (n - i) = n - i := by simp only [Nat.min_def]; split <;> omega
    have := run_copy_rowK (P := Tryz.prog) w.drew 3 26 26 ty 43 g ((i + 1) * 3) (n - i) dc ⟨g, i * 3, none⟩ (n + 1 - i) sc cur 43 (rkL (l.drop i)) Tryz.underlying26 size29 hg (by rw [hmin, hD]) hcells (by rw [hD, hcs]; omega) (rkL_one _)
    rw [hmin] at this
    rw [this, hcur1]; rfl
  have hs1 : cur1.size = cap * 3 := by rw [hcur1, List.size_toArray, splice_len _ _ _ (by rw [hcl, hD]; omega), hcl]
  obtain ⟨W1, hW1⟩ : ∃ W1, W1 = w.drew.setRow g cur1 := ⟨_, rfl⟩
  have hg1 : W1.heap[g]? = some (.cells cur1 43 (0, 0)) := by rw [hW1]; exact setRow_heap w.drew g cur cur1 43 (0, 0) hg
  have hv1 : W1.heap[vb]? = some (.cells (rkC r).toArray 43 (0, 0)) := by rw [hW1, setRow_other w.drew g vb cur1 hvb]; exact hv
  obtain ⟨cur2, hcur2⟩ : ∃ c, c = (splice cur1.toList (i * 3) (rkC r)).toArray := ⟨_, rfl⟩
  have hs2 : cur2.size = cap * 3 := by rw [hcur2, List.size_toArray, splice_len _ _ _ (by rw [rkC_len]; simp [hs1]; omega)]; simpa using hs1
  have hcp2 : ∀ ty dc, (Builtin.copy_ #[26, 26] ty #[.slice (some ⟨g, i * 3, none⟩) (n + 1 - i) dc, .slice (some ⟨vb, 0, none⟩) 1 1]).run Tryz.prog W1 = .ok (goInt 1) (W1.setRow g cur2) := fun ty dc => by
    have hmin : Nat.min 1 (n + 1 - i) = 1 := by simp only [Nat.min_def]; split <;> omega
    have := run_copy_rowK (P := Tryz.prog) W1 3 26 26 ty 43 g (i * 3) (n + 1 - i) dc ⟨vb, 0, none⟩ 1 1 cur1 43 (rkC r) Tryz.underlying26 size29 hg1 (by rw [hmin]; rfl) (fun j u hj => by
      rw [Addr.add_lit, Nat.zero_add, cell_of_row W1 vb j _ 43 (0, 0) hv1]; simpa using hj) (by rw [rkC_len, hs1]; omega) (fun v hv => rkL_one [r] v (by simpa [rkL] using hv))
    rw [hmin] at this
    rw [this, hcur2]; rfl
  have hfin : Own (W1.setRow g cur2) base (.slice (some ⟨g, 0, none⟩) (n + 1) cap) (insL l i r) := by
    refine Own.mk (by rw [insL_len l i r (by omega), hn]) hbg (setRow_heap W1 g cur1 cur2 43 (0, 0) hg1) hroom hcm hs2 ?_
    have hta : cur.toList.take (i * 3) = rkL (l.take i) := by
      rw [← rkL_take, ← htk, List.take_take, Nat.min_eq_left (by omega)]
    have := splice_ba (C := rkL (l.drop i)) (B := rkC r) hta (by rw [rkL_len, List.length_take, hn, Nat.min_eq_left (by omega)]) (by rw [rkC_len, hcl]; omega)
    rw [rkC_len, hD, show i * 3 + 3 = (i + 1) * 3 by omega, show (i + 1) * 3 + (n - i) * 3 = (n + 1) * 3 by omega] at this
    rw [hcur2, hcur1, insL_rk]
    exact this
  have hgr : w.grownBy (W1.setRow g cur2) (some g) := setRow_grown (by rw [hW1]; exact setRow_grown ⟨rfl, rfl, rfl, Nat.le_refl _, fun _ _ _ => rfl⟩ (.inl rfl)) (.inl rfl)
  have HF := Lib.hid hfin
  have HGR := Lib.hid hgr
  rw [← hW1] at hcp1
  have HCP1 := Lib.hid hcp1
  have HCP2 := Lib.hid hcp2
  have HOV := Lib.hid hov
  clear hg hgs hbg hv e2 hn hlc
  clear hfin hgr hcp1 hcp2 hcur1 hcur2 hW1 hcells hov hno hso h hg1 hv1 hs1 hs2 htk hcs hcl hD
  have hne : ((i : Int) == (n : Int)) = false := by rw [beq_eq_false_iff_ne]; omega
  have hov := HOV.out
  go_enter Tryz.func24, Tryz.ntmps24
  go_wp2_with fail
  have hw1 : IntKind.i64.wrap ((i : Int) + 1) = (i : Int) + 1 := by rw [IntKind.wrap_i64]; omega
  have hb1 : (0 : Int) ≤ (i : Int) + 1 := by omega
  have htn : ((i : Int) + 1).toNat = i + 1 := by omega
  have hb2 : ¬ (cap = i + 1) := by omega
  have hb3 : (i : Int) ≤ (n : Int) + 1 := by omega
  have hb4 : ¬ (cap = i) := by omega
  have hin : i ≤ n := by omega
  have hcp1 := HCP1.out
  go_region
  clear hw1 hb1 htn hb2 hb3 hcp1
  have hcp2 := HCP2.out
  go_wp2_with fail
  go_ret
  exact ⟨rfl, HF.out, HGR.out⟩
set_option maxHeartbeats 1600000 in
set_option maxRecDepth 20000 in
/-- There is no room: a new row. -/
theorem ins_grow (g n cap base i vb : Nat) (l : List Rk) (r : Rk) (w : World) (h : Own w base (.slice (some ⟨g, 0, none⟩) n cap) l) (hn : l.length = n) (hi : i < n) (hroom : cap < n + 1) (hb40 : n ≤ 1099511627776) (hv : w.heap[vb]? = some (.cells (rkC r).toArray 43 (0, 0))) (hbase : base ≤ w.heap.size) :
    Calls Tryz.prog 24 #[.slice (some ⟨g, 0, none⟩) n cap, .int .i64 i, .slice (some ⟨vb, 0, none⟩) 1 1] w fun e w' => ∃ v', e = .returned v' ∧ Own w' base v' (insL l i r) ∧ w.grownBy w' (some g) := by
  obtain ⟨i0, hi0, hz0, hz1, hz2⟩ := info_parts Tryz.info43
  obtain ⟨a', cap', he, hlc, hcm, hno, hso⟩ := h.open
  injection he with e1 e2 e3
  subst e1; subst e3
  obtain ⟨g', cur, he', hbg, hgs, hg, hcs, htk⟩ := hso _ rfl
  cases he'
  rw [hn] at htk hlc
  obtain rfl : cap = n := by omega
  have hD : (rkL (l.drop i)).length = (cap - i) * 3 := by rw [rkL_len, List.length_drop, hn]
  have hT : (rkL (l.take i)).length = i * 3 := by rw [rkL_len, List.length_take, hn, Nat.min_eq_left (by omega)]
  have hcells0 : ∀ j u, (rkL l)[j]? = some u → w.cell? ⟨g, j, none⟩ = some u := fun j u hj => by
    have h4 := h.cells (g := g) rfl j u hj
    rwa [Addr.add_lit, Nat.zero_add] at h4
  have hold : (Builtin.firstCells i0.size i (.slice (some ⟨g, 0, none⟩) i cap)).run Tryz.prog w.drew = .ok (rkL (l.take i)).toArray w.drew := by
    rw [hz1]
    refine run_firstCells_some w.drew 3 i ⟨g, 0, none⟩ i cap _ hT (fun j u hj => ?_)
    rw [Addr.add_lit, Nat.zero_add]
    refine hcells0 j u ?_
    rw [← rkL_take, List.getElem?_take] at hj
    split at hj
    · exact hj
    · cases hj
  obtain ⟨K, hK⟩ : ∃ K, grownCap w (i + (cap + 1 - i)) cap 43 = K := ⟨_, rfl⟩
  have hKge : cap + 1 ≤ K := by rw [← hK, show i + (cap + 1 - i) = cap + 1 by omega]; exact grownCap_ge w (cap + 1) cap 43
  have hKle : K ≤ 9223372036854775807 := by
    have := grownCap_le_maxLen w (i + (cap + 1 - i)) cap 43 (by unfold maxLen; omega)
    rw [hK] at this; unfold maxLen at this; omega
  obtain ⟨cur0, hcur0⟩ : ∃ c, c = (rkL (l.take i)).toArray ++ Builtin.zeroCells #[.int .i64 0, .int .i64 0, .int .i64 0] (cap + 1 - i) ++ Builtin.zeroCells #[.int .i64 0, .int .i64 0, .int .i64 0] (K - (cap + 1)) := ⟨_, rfl⟩
  obtain ⟨W0, hW0⟩ : ∃ W0, W0 = w.drew.alloc (.cells cur0 43) := ⟨_, rfl⟩
  have hap : ∀ ty, (Builtin.append_ #[26, 3] ty #[.slice (some ⟨g, 0, none⟩) i cap, .int .i64 ((cap : Int) + 1 - (i : Int))]).run Tryz.prog w = .ok (.slice (some ⟨w.heap.size, 0, none⟩) (cap + 1) K) W0 := fun ty => by
    have hk : ((cap + 1 - i : Nat) : Int) = (cap : Int) + 1 - (i : Int) := by omega
    have := Lib.run_append_grow_zeros (P := Tryz.prog) w 26 3 ty 43 i0 (.agg #[.int .i64 0, .int .i64 0, .int .i64 0]) .i64 .i64 Tryz.underlying26 Tryz.underlying3 hi0 hz0 (some ⟨g, 0, none⟩) i cap (rkL (l.take i)) hold (cap + 1 - i) (by omega) (by rw [hz1]; omega) (by omega) (by omega) (by rw [hz2]; omega) (by rw [hz2]; exact growslice_fits (by omega) (by omega))
    rw [hk] at this
    rw [this, hK, show i + (cap + 1 - i) = cap + 1 by omega, hW0, hcur0]
    rfl
  have hs0 : cur0.size = K * 3 := by
    rw [hcur0]; simp only [Array.size_append, List.size_toArray, size_zeroCells, hT]
    show i * 3 + (cap + 1 - i) * 3 + (K - (cap + 1)) * 3 = K * 3
    omega
  have ht0 : cur0.toList.take (i * 3) = rkL (l.take i) := by
    rw [hcur0]; simp only [Array.toList_append, List.append_assoc]
    exact List.take_left' hT
  obtain ⟨hh, hhh⟩ : ∃ hh, w.heap.size = hh := ⟨_, rfl⟩
  have hg0 : W0.heap[hh]? = some (.cells cur0 43 (0, 0)) := by rw [hW0, ← hhh]; exact heap_alloc_new w.drew _
  have hold0 : ∀ k, k < hh → W0.heap[k]? = w.heap[k]? := fun k hk => by rw [hW0]; exact Below.heap_alloc w.drew _ k (by rw [← hhh] at hk; exact hk)
  have hvlt : vb < hh := by rw [← hhh]; exact (Array.getElem?_eq_some_iff.1 hv).1
  have hgr0 : w.grownBy W0 (some g) := by
    rw [hW0]
    have h7 := World.grownBy_alloc w.drew (.cells cur0 43) (some g)
    exact ⟨h7.os, h7.tape, h7.output, h7.size, h7.block⟩
  rw [hhh] at hap hgs hbase
  obtain ⟨cur1, hcur1⟩ : ∃ c, c = (splice cur0.toList (i * 3) (rkC r)).toArray := ⟨_, rfl⟩
  obtain ⟨W1, hW1⟩ : ∃ W1, W1 = W0.setRow hh cur1 := ⟨_, rfl⟩
  have hcp1 : ∀ ty, (Builtin.copy_ #[26, 26] ty #[.slice (some ⟨hh, i * 3, none⟩) (cap + 1 - i) (K - i), .slice (some ⟨vb, 0, none⟩) 1 1]).run Tryz.prog W0 = .ok (goInt 1) W1 := fun ty => by
    have hmin : Nat.min 1 (cap + 1 - i) = 1 := by simp only [Nat.min_def]; split <;> omega
    have := run_copy_rowK (P := Tryz.prog) W0 3 26 26 ty 43 hh (i * 3) (cap + 1 - i) (K - i) ⟨vb, 0, none⟩ 1 1 cur0 43 (rkC r) Tryz.underlying26 size29 hg0 (by rw [hmin]; rfl) (fun j u hj => by
      rw [Addr.add_lit, Nat.zero_add, cell_of_row W0 vb j _ 43 (0, 0) ((hold0 vb hvlt).trans hv)]; simpa using hj) (by rw [rkC_len, hs0]; omega) (fun v hv => rkL_one [r] v (by simpa [rkL] using hv))
    rw [hmin] at this
    rw [this, hW1, hcur1]; rfl
  have hs1 : cur1.size = K * 3 := by rw [hcur1, List.size_toArray, splice_len _ _ _ (by rw [rkC_len]; simp [hs0]; omega)]; simpa using hs0
  have hg1 : W1.heap[hh]? = some (.cells cur1 43 (0, 0)) := by rw [hW1]; exact setRow_heap W0 hh cur0 cur1 43 (0, 0) hg0
  obtain ⟨cur2, hcur2⟩ : ∃ c, c = (splice cur1.toList ((i + 1) * 3) (rkL (l.drop i))).toArray := ⟨_, rfl⟩
  obtain ⟨W2, hW2⟩ : ∃ W2, W2 = W1.drew.setRow hh cur2 := ⟨_, rfl⟩
  have hcp2 : ∀ ty, (Builtin.copy_ #[26, 26] ty #[.slice (some ⟨hh, (i + 1) * 3, none⟩) (cap - i) (K - (i + 1)), .slice (some ⟨g, i * 3, none⟩) (cap - i) (cap - i)]).run Tryz.prog W1.drew = .ok (goInt ((cap - i : Nat) : Int)) W2 := fun ty => by
    have hmin : Nat.min (cap - i) (cap - i) = cap - i := by simp only [Nat.min_def]; split <;> omega
    have := run_copy_rowK (P := Tryz.prog) W1.drew 3 26 26 ty 43 hh ((i + 1) * 3) (cap - i) (K - (i + 1)) ⟨g, i * 3, none⟩ (cap - i) (cap - i) cur1 43 (rkL (l.drop i)) Tryz.underlying26 size29 hg1 (by rw [hmin, hD]) (fun j u hj => by
      rw [Addr.add_lit]
      have h5 := hcells0 (i * 3 + j) u (by rw [← hj, ← rkL_drop, List.getElem?_drop])
      have h6 : W1.heap[g]? = w.heap[g]? := by rw [hW1, setRow_other W0 hh g cur1 (by omega)]; exact hold0 g hgs
      exact (World.cell?_of_block h6).trans h5) (by rw [hD, hs1]; omega) (rkL_one _)
    rw [hmin] at this
    rw [this, hW2, hcur2]; rfl
  have hs2 : cur2.size = K * 3 := by rw [hcur2, List.size_toArray, splice_len _ _ _ (by rw [hD]; simp [hs1]; omega)]; simpa using hs1
  have hfin : Own W2 base (.slice (some ⟨hh, 0, none⟩) (cap + 1) K) (insL l i r) := by
    refine Own.mk (by rw [insL_len l i r (by omega), hn]) hbase (by rw [hW2]; exact setRow_heap W1.drew hh cur1 cur2 43 (0, 0) hg1) hKge hKle hs2 ?_
    have := splice_ab (C := rkL (l.drop i)) (B := rkC r) ht0 hT
    rw [rkC_len, hD, show i * 3 + 3 = (i + 1) * 3 by omega, show (i + 1) * 3 + (cap - i) * 3 = (cap + 1) * 3 by omega] at this
    rw [hcur2, hcur1, insL_rk]
    exact this
  have hgr : w.grownBy W2 (some g) := by
    rw [hW2]
    refine setRow_grown ?_ (.inr (by omega))
    have h7 : w.grownBy W1 (some g) := by rw [hW1]; exact setRow_grown hgr0 (.inr (by omega))
    exact ⟨h7.os, h7.tape, h7.output, h7.size, h7.block⟩
  have HF := Lib.hid hfin
  have HGR := Lib.hid hgr
  have HCP1 := Lib.hid hcp1
  have HCP2 := Lib.hid hcp2
  have HAP := Lib.hid hap
  clear hg hgs hbg hv e2 hn hlc hfin hgr hcp1 hcp2 hcur1 hcur2 hW1 hcells0 hold hK hcur0 hW0 hap hs0 ht0 hhh hg0 hold0 hvlt hgr0 hs1 hg1 hW2 hs2 hno hso h htk hcs hD hT hz0 hz1 hz2 hi0
  have hne : ((i : Int) == (cap : Int)) = false := by rw [beq_eq_false_iff_ne]; omega
  have t1 : decide ((cap : Int) < (cap : Int) + 1) = true := decide_eq_true (by omega)
  have hb4 : ¬ (cap = i) := by omega
  go_enter Tryz.func24, Tryz.ntmps24
  have hcp1 := HCP1.out
  go_wp2_with (at_builtin; go_must (refine Lib.wpList_append_run _ rfl _ _ _ _ rfl _ _ rfl rfl _ _ (HAP.out _) ?_))
  have hw1 : IntKind.i64.wrap ((i : Int) + 1) = (i : Int) + 1 := by rw [IntKind.wrap_i64]; omega
  have hb1 : (0 : Int) ≤ (i : Int) + 1 := by omega
  have htn : ((i : Int) + 1).toNat = i + 1 := by omega
  have hb2 : ¬ (K = i + 1) := by omega
  have hb3 : (i : Int) ≤ (cap : Int) + 1 := by omega
  have hin : i ≤ cap := by omega
  have hcp2 := HCP2.out
  go_region
  clear hw1 hb1 htn hb2 hb3 hcp2
  go_wp2_with fail
  go_ret
  exact ⟨_, rfl, HF.out, HGR.out⟩
set_option maxHeartbeats 800000 in
set_option maxRecDepth 20000 in
/-- At the end. -/
theorem ins_end (a : Option Addr) (n cap base vb : Nat) (l : List Rk) (r : Rk) (w : World) (h : Own w base (.slice a n cap) l) (hn : l.length = n) (hb40 : n ≤ 1099511627776) (hv : w.heap[vb]? = some (.cells (rkC r).toArray 43 (0, 0))) (hbase : base ≤ w.heap.size) :
    Calls Tryz.prog 24 #[.slice a n cap, .int .i64 n, .slice (some ⟨vb, 0, none⟩) 1 1] w fun e w' => ∃ v', e = .returned v' ∧ Own w' base v' (insL l n r) ∧ w.grownBy w' (Value.slice a n cap).ownBlock := by
  obtain ⟨i0, hi, hz0, hz1, hz2⟩ := info_parts Tryz.info43
  obtain ⟨a', cap', he, hlc, hcm, hno, hso⟩ := h.open
  injection he with e1 e2 e3
  subst e1; subst e3
  rw [hn] at hlc
  have hown : w.ownsRow base 43 3 (.slice a n cap) n (rkL l) := by unfold Own at h; rwa [hn] at h
  have HO := Lib.hid hown
  have HV := Lib.hid hv
  have HI : Hid (insL l n r = l ++ [r]) := by
    show _ = _
    unfold insL
    rw [List.take_of_length_le (by omega), List.drop_of_length_le (by omega)]
  have HN := Lib.hid hn
  have HNO := Lib.hid hno
  have HSO := Lib.hid hso
  have hne : ((n : Int) == (n : Int)) = true := by simp
  have HNW : Hid (∀ j u, (rkC r)[j]? = some u → w.cell? ((⟨vb, 0, none⟩ : Addr).add j) = some u) := fun j u hj => by rw [Addr.add_lit, Nat.zero_add, cell_of_row w vb j _ 43 (0, 0) hv]; simpa using hj
  have HON : Hid (∀ v ∈ rkC r, v.oneCell' = true) := fun v hv => rkL_one [r] v (by simpa [rkL] using hv)
  clear h hown hv hn e2 hno hso
  go_enter Tryz.func24, Tryz.ntmps24
  cases a with
  | none =>
    obtain rfl : cap = 0 := (HNO.out rfl).1
    obtain rfl : n = 0 := by omega
    go_wp2_with (at_builtin; go_must (refine wpList_append_own _ rfl _ _ 26 rfl base 43 i0 (.agg #[.int .i64 0, .int .i64 0, .int .i64 0]) 3 24 Tryz.underlying26 hi hz0 hz1 hz2 rfl (by decide) _ 0 (rkL l) rfl HO.out ⟨vb, 0, none⟩ 1 1 (rkC r) rfl rfl HNW.out HON.out (by unfold maxLen; omega) (by omega) hbase ?_))
    intro v' w1 ho hg _
    have HOW : Hid (Own w1 base v' (insL l 0 r)) := by
      show World.ownsRow _ _ _ _ _ _ _
      rw [HI.out, rkL_app, List.length_append, HN.out]
      simpa [rkL] using ho
    have HG := Lib.hid hg
    clear ho hg
    go_wp2_with fail
    go_ret
    exact ⟨_, rfl, HOW.out, HG.out⟩
  | some x =>
    obtain ⟨g, cur, rfl, -⟩ := HSO.out x rfl
    rcases Nat.eq_or_lt_of_le hlc with rfl | hcn
    all_goals
      go_wp2_with (at_builtin; go_must (refine wpList_append_own _ rfl _ _ 26 rfl base 43 i0 (.agg #[.int .i64 0, .int .i64 0, .int .i64 0]) 3 24 Tryz.underlying26 hi hz0 hz1 hz2 rfl (by decide) _ n (rkL l) rfl HO.out ⟨vb, 0, none⟩ 1 1 (rkC r) rfl rfl HNW.out HON.out (by unfold maxLen; omega) (by omega) hbase ?_))
      intro v' w1 ho hg _
      have HOW : Hid (Own w1 base v' (insL l n r)) := by
        show World.ownsRow _ _ _ _ _ _ _
        rw [HI.out, rkL_app, List.length_append, HN.out]
        simpa [rkL] using ho
      have HG := Lib.hid hg
      clear ho hg
      go_wp2_with fail
      go_ret
      exact ⟨_, rfl, HOW.out, HG.out⟩
/-- slices.Insert of one. -/
theorem ins_any (a : Option Addr) (n cap base i vb : Nat) (l : List Rk) (r : Rk) (w : World) (h : Own w base (.slice a n cap) l) (hn : l.length = n) (hi : i ≤ n) (hb40 : n ≤ 1099511627776) (hvb : (Value.slice a n cap).ownBlock ≠ some vb) (hv : w.heap[vb]? = some (.cells (rkC r).toArray 43 (0, 0))) (hbase : base ≤ w.heap.size) :
    Calls Tryz.prog 24 #[.slice a n cap, .int .i64 i, .slice (some ⟨vb, 0, none⟩) 1 1] w fun e w' => ∃ v', e = .returned v' ∧ Own w' base v' (insL l i r) ∧ w.grownBy w' (Value.slice a n cap).ownBlock := by
  rcases Nat.eq_or_lt_of_le hi with rfl | hlt
  · exact ins_end a i cap base vb l r w h hn hb40 hv hbase
  · obtain ⟨a', cap', he, hlc, hcm, hno, hso⟩ := h.open
    injection he with e1 e2 e3
    subst e1; subst e3
    cases a with
    | none => obtain ⟨h1, h2⟩ := hno rfl; rw [h2] at hn; simp at hn; omega
    | some x =>
      obtain ⟨g, cur, rfl, -⟩ := hso x rfl
      rcases Nat.lt_or_ge cap (n + 1) with h1 | h1
      · exact ins_grow g n cap base i vb l r w h hn hlt h1 hb40 hv hbase
      · refine (ins_room g n cap base i vb l r w h hn hlt h1 (fun e => hvb (by rw [e]; rfl)) hv).mono ?_
        rintro e w' ⟨h2, h3, h4⟩
        exact ⟨_, h2, h3, h4⟩
end Go.Proofs.YthaiopgmncnekaaGreatDoor.Qu
