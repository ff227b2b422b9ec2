/- The walk of PoolFew. Condition: a list takes at most 2^47 bytes. -/
import Derived.Test.YtimknmofcnhbpaaAl
set_option linter.unusedSimpArgs false
set_option linter.unusedVariables false
namespace Go.Proofs.Ytimknmofcnhbpaa.poolFew
open Go.RowKit Go.Proofs.Ytimknmofcnhbpaa
set_option maxHeartbeats 3200000 in
set_option maxRecDepth 20000 in
theorem run (r : Int) (a1 a2 : Option Addr) (n1 n2 c1 c2 : Nat) (l ds : List Int) (w : World) (h1 : Rd w (.slice a1 n1 c1) l) (h2 : Rd w (.slice a2 n2 c2) ds) (hb8 : n1 * 8 ≤ 140737488355328) :
    Calls Try.prog 6 #[.int .i64 r, .slice a1 n1 c1, .slice a2 n2 c2] w fun e w' => e = .returned (.bool true) ∧ Below w.heap.size w w' := by
  have hl1 : l.length = n1 := by obtain ⟨_, _, he, -⟩ := h1.slice; cases he; rfl
  have HL := Lib.hid h1
  have HD := Lib.hid h2
  have HLN := Lib.hid hl1
  clear h1 h2 hl1
  go_enter Try.func6, Try.ntmps6
  go_wp2_with fail
  refine (alive_any _).mono ?_
  rintro e w1 ⟨rfl, hb⟩
  have H1 := Lib.hid hb
  clear hb
  go_wp2_with fail
  refine (all_any r a1 a2 n1 n2 c1 c2 l ds _ (HL.out.below H1.out (Nat.le_refl _)) (HD.out.below H1.out (Nat.le_refl _))).mono ?_
  rintro e w2 ⟨hb, h⟩
  rw [HLN.out] at h
  rcases h with ⟨h0, v, rfl, hr⟩ | ⟨h0, rfl⟩
  · obtain ⟨a, k, hv, hk1, hk2⟩ := hr.slice
    have H2 := Lib.hid (H1.out.trans (hb.mono H1.out.size))
    have HR2 := Lib.hid hr
    have hrr : 1 ≤ r ∧ r ≤ 400 := by
      unfold allR at h0
      by_cases hr : 1 ≤ r ∧ r ≤ 400
      · exact hr
      · rw [if_pos hr] at h0; cases h0
    have hn40 : (n1 : Int) ≤ 1099511627776 := by
      have h9 : allE ds n1 = 0 := by
        unfold allR at h0
        rw [if_neg (by omega)] at h0
        by_cases hn : l.length ≠ ds.length
        · rw [if_pos hn] at h0; cases h0
        · rw [if_neg hn, HLN.out] at h0; exact h0
      rcases Int.lt_or_le 1099511627776 (n1 : Int) with h | h
      · have := (allE_all h9 1099511627776 (by omega)).1
        unfold addE at this
        rw [if_pos (by decide)] at this
        cases this
      · exact h
    have HRP : Hid (RightP r n1 (allL r l ds n1).length) := ⟨hrr.1, hrr.2, by omega, hn40, allL_len hrr.1 l ds n1⟩
    have HLEN : Hid (((allL r l ds n1).length : Int) = min r n1) := allL_len hrr.1 l ds n1
    have HFEW : Hid ((n1 : Int) ≤ r → allL r l ds n1 = l) := fun h => by
      rw [allL_few n1 h (by rw [HLN.out]; exact Nat.le_refl _), List.take_of_length_le (by rw [HLN.out]; exact Nat.le_refl _)]
    have HFIT : Hid (Fits (allL r l ds n1) l) := fun y => by
      have := allL_count (r := r) (l := l) (ds := ds) y n1 (by rw [HLN.out]; exact Nat.le_refl _)
      rwa [List.take_of_length_le (by rw [HLN.out]; exact Nat.le_refl _)] at this
    generalize allL r l ds n1 = H at *
    have HRH := HR2
    subst hv
    generalize hHn : H.length = m at *
    have HN := Lib.hid hHn
    have hm4 : m ≤ 400 := by have := HLEN.out; omega
    have hml : (m : Int) ≤ r := by have := HLEN.out; omega
    have hmn : (m : Int) ≤ n1 := by have := HLEN.out; omega
    clear h0 hb hr hHn
    obtain ⟨wp, hwp⟩ : ∃ wp, w2.alloc (.cells #[.int .i64 r, .int .i64 n1, .slice a m k] 27) = wp := ⟨_, rfl⟩
    have HPX : Hid (BX wp w2.heap.size r n1 (.slice a m k)) := hwp ▸ BX.new w2 r n1 (.slice a m k)
    have HWP : Hid (Below w.heap.size w wp) := hwp ▸ H2.out.alloc H2.out.size _
    have HRp : Hid (Rd wp (.slice a m k) H) := hwp ▸ HR2.out.alloc _
    have HWs : Hid (w2.heap.size < wp.heap.size) := HPX.out.lt
    have d2 := HPX.out.c2
    by_cases hfew : (n1 : Int) ≤ r
    · have q1 : decide ((n1 : Int) ≤ r) = true := decide_eq_true hfew
      have HE := Lib.hid (HFEW.out hfew)
      go_wp2_with fail
      refine (equal_any _ _ _ _ _ HRp.out (HL.out.below HWP.out (Nat.le_refl _))).mono ?_
      rintro e w3 ⟨rfl, hb3⟩
      rw [decide_eq_true HE.out]
      have H3 := Lib.hid (HWP.out.trans (hb3.mono HWP.out.size))
      clear hb3
      go_wp2_with fail
      go_ret
      exact ⟨rfl, H3.out⟩
    · have q1 : decide ((n1 : Int) ≤ r) = false := decide_eq_false hfew
      go_wp2_with fail
      have hcl := clone_any _ l wp (HL.out.below HWP.out (Nat.le_refl _)) (by rw [HLN.out]; exact hb8)
      rw [HLN.out] at hcl
      refine hcl.mono ?_
      rintro e w3 ⟨v3, rfl, ho3, hb3⟩
      have HB3 := Lib.hid (HWP.out.trans (hb3.mono HWP.out.size))
      have HP3 := Lib.hid (HPX.out.below hb3 HWs.out)
      have HR3 := Lib.hid (HRp.out.below hb3 (Nat.le_refl _))
      have HO3 := Lib.hid ho3
      have HBp3 := Lib.hid hb3
      clear d2
      have d2 := HP3.out.c2
      have hmr : (m : Int) = r := by have := HLEN.out; omega
      clear hb3 ho3 hcl
      go_wp2_with fail
      go_loopw [46, 9] (fun iv lv wr => ∃ i q : Nat, i ≤ m ∧ iv = .int .i64 i ∧ ∃ L, Hid (wr.ownsRow wp.heap.size 3 1 lv q (L.map (Value.int .i64))) ∧ Hid (Fits (H.drop i) L) ∧ Hid (Below wp.heap.size wp wr)) (fun iv _ _ => m - (intOf iv).toNat)
      case atStart => exact ⟨0, n1, Nat.zero_le _, rfl, l, HO3.out, HFIT.out, HBp3.out⟩
      case round =>
        clear HB3 HP3 HR3 HO3 HBp3 d2
        obtain ⟨i, q, him, rfl, L, HO, HF, HBp⟩ := hrel
        have HB := Lib.hid (HWP.out.trans (HBp.out.mono HWP.out.size))
        have HX := Lib.hid (HPX.out.below HBp.out HWs.out)
        have HR := Lib.hid (HRp.out.below HBp.out (Nat.le_refl _))
        by_cases hlt : i < m
        · obtain ⟨bh, oh, rfl, hbh, ch⟩ := HR.out.at hlt
          have hLq : L.length = q := by have := HO.out.1; simpa using this
          have hin : H.getD i 0 ∈ L := HF.out.mem (by
            have hd : i < H.length := by rw [HN.out]; exact hlt
            rw [List.drop_eq_getElem_cons hd, List.getD_eq_getElem?_getD, List.getElem?_eq_getElem hd]; exact List.mem_cons_self)
          obtain ⟨j, hj1, hj2, hj3⟩ := index_in hin
          have HJ1 := Lib.hid hj1
          have HF' : Hid (Fits (H.drop (i + 1)) (L.eraseIdx j)) := HF.out.step (by rw [HN.out]; exact hlt) hj2 hj3
          rw [hLq] at hj2
          obtain ⟨g, cg, rfl, hg1, hg2, hg3, hg4, -⟩ := own_open HO.out (by omega : 0 < q)
          have HRL := Lib.hid (Rd.own HO.out)
          clear hj1 hj3 hin hLq
          generalize H.getD i 0 = x at *
          unfold maxLen at hg2
          go_wp2_with fail
          refine (index_any _ _ _ L x _ HRL.out).mono ?_
          rintro e w4 ⟨rfl, rfl⟩
          rw [HJ1.out]
          go_wp2_with fail
          refine (del_own HO.out j hj2 _ rfl).mono ?_
          rintro e w5 ⟨rfl, ho5, hb5⟩
          have HO5 := Lib.hid ho5
          have HB5 := Lib.hid (HBp.out.trans hb5)
          go_wp2_with fail
          go_roundw
          case rel => exact ⟨i + 1, q - 1, by omega, by go_num, _, HO5.out, HF'.out, HB5.out⟩
          case measure => simp [intOf]; omega
        · obtain rfl : i = m := by omega
          have d0 := HX.out.c0
          have d1 := HX.out.c1
          have d2 := HX.out.c2
          have q2 : (((i : Nat) : Int) == r) = true := by rw [beq_iff_eq]; exact hmr
          go_wp2_with fail
          refine (right_any _ _ _ _ _ _).mono ?_
          rintro e w4 ⟨rfl, hb4⟩
          rw [decide_eq_true HRP.out]
          have H4 := Lib.hid (HB.out.trans (hb4.mono HB.out.size))
          go_wp2_with fail
          go_ret
          exact ⟨rfl, H4.out⟩
  · have H2 := Lib.hid (H1.out.trans (hb.mono H1.out.size))
    have q1 : ((allR r l ds) == 0) = false := by rw [beq_eq_false_iff_ne]; exact h0
    have q2 : ((allR r l ds) != 0) = true := by rw [bne_iff_ne]; exact h0
    have HS := Lib.hid hb.size
    clear h0 hb
    generalize allR r l ds = ec at *
    go_wp2_with fail
    go_ret
    exact ⟨rfl, H2.out.alloc H2.out.size _⟩
theorem walk (a0 : Int) (a1 : Option Addr) (len1 cap1 : Nat) (z1 : List Int) (a2 : Option Addr) (len2 cap2 : Nat) (z2 : List Int) (w : World) (w0 : (Lit.int .i64 a0).wf = true) (w1 : IsRow .i64 w a1 len1 cap1 z1) (r1r : len1 * 8 ≤ 140737488351232) (w2 : IsRow .i64 w a2 len2 cap2 z2) :
    Calls Try.prog 6 #[.int .i64 a0, .slice a1 len1 cap1, .slice a2 len2 cap2] w fun e w' => e = .returned (.bool true) ∧ Below w.heap.size w w' :=
  run a0 a1 a2 len1 len2 cap1 cap2 _ _ w w1.rd.1 w2.rd.1 (by omega)
end Go.Proofs.Ytimknmofcnhbpaa.poolFew
