/- quant.squeeze: what it answers. Condition: what it is given is small. -/
import Derived.Test.YthaiopgmncnekaaGreatDoorQuSqL
import Derived.BigRegion
set_option linter.unusedSimpArgs false
set_option linter.unusedVariables false
set_option maxRecDepth 20000
namespace Go.Proofs.YthaiopgmncnekaaGreatDoor.Qu
open Go.RowKit
/-- What is asked of a list that is squeezed. -/
structure SqP (C : Int) (l : List Rk) : Prop where
  gap : ∀ r ∈ l, 1 ≤ r.Gap
  more : ∀ r ∈ l, 0 ≤ r.More ∧ r.More ≤ 1099511627776
  sum : cnt l = C
theorem gap_le' {l : List Rk} (h : ∀ r ∈ l, 1 ≤ r.Gap) (k : Nat) (hk : k < l.length) : (l.getD k default).Gap ≤ cnt l := by
  have h1 := cnt_succ l k hk
  have h2 := cnt_take_le h k
  have h3 := cnt_take_le h (k + 1)
  omega
theorem SqP.mrg {C : Int} {l : List Rk} (h : SqP C l) (k : Nat) (hk : k + 1 < l.length) : SqP C (mrg l k) := by
  have a1 := getD_mem l k (by omega)
  have a2 := getD_mem l (k + 1) hk
  refine ⟨mrg_all l k hk h.gap ?_, mrg_all (P := fun r => 0 ≤ r.More ∧ r.More ≤ 1099511627776) l k hk h.more (h.more (l.getD (k + 1) default) a2), by rw [mrg_cnt l k hk]; exact h.sum⟩
  have := h.gap _ a1
  have := h.gap _ a2
  show 1 ≤ (l.getD (k + 1) default).Gap + (l.getD k default).Gap
  omega
set_option maxHeartbeats 1600000 in
set_option maxRecDepth 20000 in
theorem sq_any (p : Int) (a : Option Addr) (n cap base B : Nat) (l : List Rk) (w : World) (h : Own w base (.slice a n cap) l) (hn : l.length = n) (hp1 : 1 ≤ p) (hp2 : p ≤ 100)
    (C : Int) (hS : SqP C l) (hC : C ≤ 1099511627776) (hB : B ≤ base) (hBs : B ≤ w.heap.size) :
    Calls Tryz.prog 23 #[.int .i64 p, .slice a n cap] w fun e w' => ∃ v', e = .returned v' ∧ Own w' base v' (sqz p l) ∧ Below B w w' := by
  have hn40 : n ≤ 1099511627776 := by have := cnt_nn hS.gap; have := hS.sum; omega
  have hC0 : 0 ≤ C := by have := cnt_nn hS.gap; have := hS.sum; omega
  have HCN : Hid (Calls Tryz.prog 15 #[.slice a n cap] w fun e w' => e = .returned (.int .i64 C) ∧ Below w.heap.size w w') := by
    have := count_any a n cap base l w h hn hS.gap (by rw [hS.sum]; exact hC)
    rw [hS.sum] at this
    exact this
  have hw : IntKind.i64.wrap (2 * C) = 2 * C := by rw [IntKind.wrap_i64]; omega
  obtain ⟨M, hM⟩ : ∃ M, 2 * C / p = M := ⟨_, rfl⟩
  have hd : IntKind.i64.wrap ((2 * C).tdiv p) = M := by
    rw [Int.tdiv_eq_ediv_of_nonneg (by omega), IntKind.wrap_i64]
    have := Int.ediv_le_self (a := 2 * C) p (by omega)
    have := Int.ediv_nonneg (a := 2 * C) (b := p) (by omega) (by omega)
    omega
  have hd' : 2 * C / p = M := hM
  have hM' : IntKind.i64.wrap M = M := by
    rw [← hd, IntKind.wrap_i64, IntKind.wrap_i64]; omega
  have HSQ : Hid (sqz p l = sqF M (n - 2) l) := by show _ = _; unfold sqz; rw [hS.sum, hM, hn]
  have HO := Lib.hid h
  have HN := Lib.hid hn
  have HS := Lib.hid hS
  clear h hn hS hM
  have hpp : (0 : Int) < p := by omega
  have hp0 : (p == 0) = false := by rw [beq_eq_false_iff_ne]; omega
  have hwn : IntKind.i64.wrap ((n : Int) - 2) = (n : Int) - 2 := by rw [IntKind.wrap_i64]; omega
  go_enter Tryz.func23, Tryz.ntmps23
  go_wp2_with fail
  refine HCN.out.mono ?_
  rintro e w1 ⟨rfl, hb1⟩
  have HB1 : Hid (Below B w w1) := hb1.mono hBs
  have HO1 : Hid (Own w1 base (.slice a n cap) l) := HO.out.below hb1 (Nat.le_refl _)
  clear hb1 HCN
  go_wp2_with fail
  clear hw hd hd' hM' hpp hp0 hwn HO
  have HST : Hid (sqF M (n - 2) l = sqz p l) := HSQ.out.symm
  go_loopw [1, 6] (fun v kv wr => ∃ (a' : Option Addr) (n' cap' : Nat) (l' : List Rk) (z : Int) (k : Nat), v = .slice a' n' cap' ∧ kv = .int .i64 z ∧ k = z.toNat ∧ (0 < k → k + 1 < n') ∧ z ≤ 1099511627776 ∧ Hid (l'.length = n') ∧ Hid (Own wr base (.slice a' n' cap') l') ∧ Hid (SqP C l') ∧ Hid (sqF M k l' = sqz p l) ∧ Hid (Below B w wr)) (fun _ kv _ => (intOf kv).toNat)
  case atStart => exact ⟨_, _, _, l, _, n - 2, rfl, rfl, by omega, by omega, by omega, HN.out, HO1.out, HS.out, HST.out, HB1.out⟩
  case round =>
    clear HB1 HO1 HS HST HSQ HN
    obtain ⟨a', n', cap', l', z, k, rfl, rfl, hkz, hkn, hz40, HN, HO, HS, HF, HB⟩ := hrel
    rcases Nat.eq_zero_or_pos k with h0 | h0
    · have hzd : decide ((1 : Int) ≤ z) = false := decide_eq_false (by omega)
      subst h0
      have HE : Hid (l' = sqz p l) := HF.out
      clear hkz hkn HF
      go_wp2_with fail
      go_ret
      exact ⟨_, rfl, by rw [← HE.out]; exact HO.out, HB.out⟩
    · obtain rfl : z = (k : Int) := by omega
      have hkn := hkn h0
      clear hkz
      have hzd : decide ((1 : Int) ≤ (k : Int)) = true := decide_eq_true (by omega)
      obtain ⟨g, rfl, hbg, hgs, hcell⟩ := HO.out.at (show 0 < n' by omega)
      obtain ⟨c0, c1, c2⟩ := hcell k (by omega)
      obtain ⟨d0, d1, d2⟩ := hcell (k + 1) (by omega)
      have hm1 := getD_mem l' k (by rw [HN.out]; omega)
      have hm2 := getD_mem l' (k + 1) (by rw [HN.out]; omega)
      have b1 := HS.out.gap _ hm1
      have b2 := HS.out.gap _ hm2
      have b3 := HS.out.more _ hm2
      have b4 := gap_le' HS.out.gap k (by rw [HN.out]; omega)
      have b5 := gap_le' HS.out.gap (k + 1) (by rw [HN.out]; omega)
      rw [HS.out.sum] at b4 b5
      have hn'40 : (n' : Int) ≤ C := by have := cnt_nn HS.out.gap; rw [HS.out.sum, HN.out] at this; exact this
      have HBIG : Hid (big l' k = (l'.getD k default).Gap + (l'.getD (k + 1) default).Gap + (l'.getD (k + 1) default).More) := rfl
      have HMRG := Lib.hid (mrg_len l' k (by rw [HN.out]; omega))
      have HSM := Lib.hid (HS.out.mrg k (by rw [HN.out]; omega))
      have HSET := Lib.hid (HO.out.setGap HN.out (k + 1) (by omega) ((l'.getD (k + 1) default).Gap + (l'.getD k default).Gap))
      obtain ⟨G1, hG1⟩ : ∃ x, (l'.getD k default).Gap = x := ⟨_, rfl⟩
      obtain ⟨G2, hG2⟩ : ∃ x, (l'.getD (k + 1) default).Gap = x := ⟨_, rfl⟩
      obtain ⟨M2, hM2⟩ : ∃ x, (l'.getD (k + 1) default).More = x := ⟨_, rfl⟩
      rw [hG1] at c1 b1 b4
      rw [hG2] at d1 b2 b5
      rw [hM2] at d2 b3
      have HBG : Hid (big l' k = G1 + G2 + M2) := by show _ = _; rw [HBIG.out, hG1, hG2, hM2]
      obtain ⟨s1, hs1⟩ : ∃ s, G1 + G2 = s := ⟨_, rfl⟩
      obtain ⟨s2, hs2⟩ : ∃ s, s1 + M2 = s := ⟨_, rfl⟩
      obtain ⟨s3, hs3⟩ : ∃ s, G2 + G1 = s := ⟨_, rfl⟩
      have w1' : IntKind.i64.wrap (G1 + G2) = s1 := by rw [IntKind.wrap_i64]; omega
      have w2' : IntKind.i64.wrap (s1 + M2) = s2 := by rw [IntKind.wrap_i64]; omega
      have w3' : IntKind.i64.wrap (G2 + G1) = s3 := by rw [IntKind.wrap_i64]; omega
      have w4' : IntKind.i64.wrap ((k : Int) + 1) = ((k + 1 : Nat) : Int) := by rw [IntKind.wrap_i64]; omega
      have w5' : IntKind.i64.wrap ((k : Int) - 1) = (k : Int) - 1 := by rw [IntKind.wrap_i64]; omega
      have p1 : (0 ≤ (k : Int) ∧ (k : Int) < (n' : Int)) = True := eq_true ⟨by omega, by omega⟩
      have p2 : (0 ≤ ((k + 1 : Nat) : Int) ∧ ((k + 1 : Nat) : Int) < (n' : Int)) = True := eq_true ⟨by omega, by omega⟩
      have f1 : wr.frozen? ⟨g, (k + 1) * 3 + 1, none⟩ = false := HO.out.frozen _
      have HS3 : Hid ((l'.getD (k + 1) default).Gap + (l'.getD k default).Gap = s3) := by show _ = _; rw [hG1, hG2, hs3]
      rw [hG1, hG2, hs3] at HSET
      have HBG2 : Hid (big l' k = s2) := by show _ = _; rw [HBG.out, hs1, hs2]
      clear hcell hm1 hm2 HBIG HBG hG1 hG2 hM2 hs1 hs2 hs3 c0 d0 c2 b1 b2 b3 b4 b5
      by_cases ht : s2 ≤ M
      · have t1 : decide (s2 ≤ M) = true := decide_eq_true ht
        have HSQ : Hid (sqS M l' k = mrg l' k) := by show _ = _; unfold sqS; rw [HBG2.out, if_pos ht]
        go_wp2_with fail
        go_quiet (fail)
        go_wp2_with fail
        have c1' : (wr.drewN nq).cell? ⟨g, k * 3 + 1, none⟩ = some (.int .i64 G1) := c1
        have d1' : (wr.drewN nq).cell? ⟨g, (k + 1) * 3 + 1, none⟩ = some (.int .i64 G2) := d1
        have f1' : (wr.drewN nq).frozen? ⟨g, (k + 1) * 3 + 1, none⟩ = false := f1
        obtain ⟨wq, hwq⟩ : ∃ wq, wr.drewN nq = wq := ⟨_, rfl⟩
        have HSETq : Hid (Own ((wq.setCell ⟨g, (k + 1) * 3 + 1, none⟩ (.int .i64 s3)).drew) base (.slice (some ⟨g, 0, none⟩) n' cap') (l'.set (k + 1) { l'.getD (k + 1) default with Gap := s3 })) := by
          rw [← hwq]; exact HSET.out
        have HBq : Hid (Below B w ((wq.setCell ⟨g, (k + 1) * 3 + 1, none⟩ (.int .i64 s3)).drew)) := by
          rw [← hwq]; exact ((HB.out.drewN nq).setCell (by show B ≤ g; omega) _).drew
        rw [hwq] at c1' d1' f1' ⊢
        clear hwq c1 d1 f1 HSET
        go_region
        clear c1' d1' f1' d2
        have HDEL := Lib.hid (del_any g n' cap' base k _ _ HSETq.out (by rw [List.length_set]; exact HN.out) (by omega) (by omega))
        have HMR : Hid (delL (l'.set (k + 1) { l'.getD (k + 1) default with Gap := s3 }) k = mrg l' k) := by
          show _ = _
          unfold mrg; rw [HS3.out]
        rw [HMR.out, show ((k + 1 : Nat) : Int) = (k : Int) + 1 by omega] at HDEL
        clear HSETq HMR
        go_wp2_with fail
        refine HDEL.out.mono ?_
        rintro e w6 ⟨rfl, ho6, hg6⟩
        have HO6 := Lib.hid ho6
        have HB6 : Hid (Below B w w6) := HBq.out.grown hg6 (Nat.le_trans hBs HBq.out.size) (fun x hx => by cases hx; omega)
        clear ho6 hg6 HDEL HBq
        go_wp2_with fail
        go_roundw
        case rel => exact ⟨_, _, _, mrg l' k, _, k - 1, rfl, rfl, by omega, by omega, by omega, by show _ = _; rw [HMRG.out, HN.out], HO6.out, HSM.out, by
          have := HF.out
          obtain ⟨q, rfl⟩ : ∃ q, k = q + 1 := ⟨k - 1, by omega⟩
          rw [sqF, HSQ.out] at this
          exact this, HB6.out⟩
        case measure => simp [intOf]; omega
      · have t1 : decide (s2 ≤ M) = false := decide_eq_false ht
        have HSQ : Hid (sqS M l' k = l') := by show _ = _; unfold sqS; rw [HBG2.out, if_neg ht]
        go_wp2_with fail
        go_quiet (fail)
        go_wp2_with fail
        go_roundw
        case rel => exact ⟨_, _, _, l', _, k - 1, rfl, rfl, by omega, by omega, by omega, HN.out, HO.out, HS.out, by
          have := HF.out
          obtain ⟨q, rfl⟩ : ∃ q, k = q + 1 := ⟨k - 1, by omega⟩
          rw [sqF, HSQ.out] at this
          exact this, HB.out.drewN _⟩
        case measure => simp [intOf]; omega
end Go.Proofs.YthaiopgmncnekaaGreatDoor.Qu
