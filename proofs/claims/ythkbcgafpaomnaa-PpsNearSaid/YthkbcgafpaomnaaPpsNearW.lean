/- The walk of PpsNear. No condition. -/
import Derived.Test.YthkbcgafpaomnaaAlive
import Derived.Test.YthkbcgafpaomnaaLaw2
set_option linter.unusedSimpArgs false
set_option linter.unusedVariables false
namespace Go.Proofs.Ythkbcgafpaomnaa.ppsNear
open Go.RowKit Go.Proofs.Ythkbcgafpaomnaa
theorem walk_bad (v : Value) (zs : List Int) (many start : Int) (w : World) (h : Rd w v zs) (hg : ¬ (Good zs many ∧ 0 ≤ start ∧ start < zs.sum)) : Calls Try.prog 3 #[v, .int .i64 many, .int .i64 start] w fun e w' => e = .returned (.bool true) ∧ Below w.heap.size w w' := by
  have HR := Lib.hid h; clear h
  have HG := Lib.hid hg; clear hg
  go_enter Try.func3, Try.ntmps3
  go_wp2_with fail
  refine (alive_any _).mono ?_
  rintro e w1 ⟨rfl, hb1⟩
  go_wp2_with fail
  refine (take_bad v zs many start _ (HR.out.below hb1 (Nat.le_refl _)) HG.out).mono ?_
  rintro e w2 ⟨c, rfl, hc, rfl⟩
  have hc' : (c != 0) = true := by rw [bne_iff_ne]; omega
  go_wp2_with fail
  refine (sum_any v zs many _ (HR.out.below hb1 (Nat.le_refl _))).mono ?_
  rintro e w2 ⟨s, c2, rfl, rfl, _, _⟩
  go_wp2_with fail
  go_ret
  exact ⟨by simp, hb1⟩
set_option maxHeartbeats 800000 in
theorem walk_good (v : Value) (zs : List Int) (many start : Int) (w : World) (h : Rd w v zs) (hg : Good zs many) (h0 : 0 ≤ start) (h1 : start < zs.sum) : Calls Try.prog 3 #[v, .int .i64 many, .int .i64 start] w fun e w' => e = .returned (.bool true) ∧ Below w.heap.size w w' := by
  obtain ⟨i0, hi, hz0, hz1, hz2⟩ := info_parts Try.info3'
  have HR := Lib.hid h
  have HG := Lib.hid hg; clear hg
  have H1 := Lib.hid h1; clear h1
  obtain ⟨a, cap, rfl, hlc, hcm, hop⟩ := h.open
  have HO := Lib.hid hop; clear hop h
  have hl400 : zs.length ≤ 400 := HG.out.1
  have g2 := HG.out.2.1
  have g3 := HG.out.2.2.1
  go_enter Try.func3, Try.ntmps3
  go_wp2_with fail
  refine (alive_any _).mono ?_
  rintro e w1 ⟨rfl, hb1⟩
  go_wp2_with fail
  refine (take_good _ zs many start _ (HR.out.below hb1 (Nat.le_refl _)) HG.out h0 H1.out).mono ?_
  rintro e w2 ⟨v2, rfl, hown, hb2⟩
  have hs0 : 0 < zs.sum := by have := H1.out; omega
  have hsb := (sum_bd zs HG.out.2.2.2.1)
  have hrd := Rd.own hown
  have HM := Lib.hid (tk_mem zs many start zs.sum hs0 zs.length (Nat.le_refl _))
  have hlen := tk_len zs many start zs.sum zs.length (Nat.le_refl _) HG.out.2.2.2.1 (by omega) h0 hs0
  have hlm := L_all zs many start (by omega) h0 H1.out
  have HC := Lib.hid (fun k (hk : k < zs.length) => tk_count zs many start zs.sum hs0 zs.length (Nat.le_refl _) k hk)
  have HNear := Lib.hid (fun k (hk : k < zs.length) => near zs many start zs.sum k hk HG.out.2.2.2.1 (by omega) h0 H1.out)
  have HQ := Lib.hid (rfl : tk zs many start zs.sum zs.length = tk zs many start zs.sum zs.length)
  generalize tk zs many start zs.sum zs.length = T at *
  clear HQ
  have hTl : T.length ≤ 400 := by omega
  clear hlen hlm
  have hB := hb1.trans (hb2.mono hb1.size)
  clear hown hb1 hb2
  have HT := Lib.hid hrd
  obtain ⟨a2, cap2, rfl, hlc2, hcm2, hop2⟩ := hrd.open
  have HO2 := Lib.hid hop2; clear hop2 hrd
  go_wp2_with fail
  refine (sum_any _ zs many _ (HR.out.below hB (Nat.le_refl _))).mono ?_
  rintro e w3 ⟨s, c2, rfl, rfl, hs, _⟩
  obtain ⟨hs', rfl⟩ := hs HG.out
  clear hs
  have HS := Lib.hid hs'; clear hs'
  rw [← HS.out] at hs0 hsb HNear HC
  have hs1 : s ≤ 419430400 := by omega
  have hsz := hB.size
  go_wp2_with (refine wpList_make_full _ rfl _ _ 22 rfl w2.heap.size 3 i0 (.int .i64 0) 1 Try.underlying22 hi hz0 hz1 .i64 .i64 _ _ zs.length rfl rfl rfl rfl ?b2 ?b3 (Nat.le_refl _) ?_)
  case b2 => rw [hz2]; omega
  case b3 => unfold maxLen; omega
  intro w4 hown hgr
  rw [zeros_eq] at hown
  have hB4 : Below w2.heap.size w2 w4 := (Below.refl _ _).grown hgr (Nat.le_refl _) (fun k hk => by cases hk)
  clear hgr
  go_wp2_with fail
  generalize w2.heap.size = g at *
  go_loopw [45] (fun i wr => ∃ (k : Nat) (c : List Int), k ≤ T.length ∧ i = .int .i64 k ∧ wr.ownsRow g 3 1 (.slice (some ⟨g, 0, none⟩) zs.length zs.length) zs.length (c.map (Value.int .i64)) ∧ Hid (Counts c T k zs.length) ∧ Below g w2 wr) (fun i _ => T.length - (intOf i).toNat)
  case atStart => exact ⟨0, _, Nat.zero_le _, rfl, hown, Counts.zero T _, hB4⟩
  case round =>
    clear hown hB4
    obtain ⟨k, c, hk, rfl, hown, hcnt, hbel⟩ := hrel
    by_cases hlt : k < T.length
    · obtain ⟨b, off, rfl, hb, hc⟩ := HO2.out k hlt
      have c1 : wr.cell? ⟨b, off + k, none⟩ = some (.int .i64 (T.getD k 0)) := (hbel.cell (p := ⟨b, off + k, none⟩) hb).trans (hc k hlt)
      obtain ⟨i, hi1, hi2, hi3⟩ := HM.out (T.getD k 0) (getD_mem T k hlt)
      rw [hi1] at c1
      have c2 := own_get hown i hi2
      have cb := hcnt.out.bd hi2
      have cf := hown.frozenAt i
      have HC2 := Lib.hid (hcnt.out.step hlt hi1 hi2)
      have HB2 := Lib.hid (hbel.setCell (Nat.le_refl _) (p := ⟨g, i, none⟩) (.int .i64 (c.getD i 0 + 1)))
      have HO3 := Lib.hid (own_set hown i (c.getD i 0 + 1))
      clear hc hi1 hi3 hown hbel hcnt
      generalize c.getD i 0 = x at *
      go_wp2_with fail
      go_roundw
      case rel => exact ⟨k + 1, _, by omega, by go_num, HO3.out, HC2.out, HB2.out⟩
      case measure => simp [intOf]; omega
    · obtain rfl : k = T.length := by omega
      have HCc : Hid (∀ j : Nat, j < zs.length → c.getD j 0 = (T.count (j : Int) : Int)) := fun j hj => by
        have := hcnt.out.2 j hj; rwa [List.take_length] at this
      have HW := Lib.hid hown
      clear hown hcnt
      go_wp2_with fail
      obtain ⟨wo, rfl⟩ : ∃ wo : World, wo = wr := ⟨_, rfl⟩
      go_loopw [66] (fun i wq => ∃ k : Nat, k ≤ zs.length ∧ i = .int .i64 k ∧ Below wo.heap.size wo wq) (fun i _ => zs.length - (intOf i).toNat)
      case atStart => exact ⟨0, Nat.zero_le _, rfl, Below.refl _ _⟩
      case round =>
        obtain ⟨k, hk, rfl, hbq⟩ := hrel
        by_cases hlt2 : k < zs.length
        · obtain ⟨b, off, rfl, hb, hc⟩ := HO.out k hlt2
          have hgl := (own_lt HW.out).2
          have c1 : wr.cell? ⟨b, off + k, none⟩ = some (.int .i64 (zs.getD k 0)) := (hbq.cell (p := ⟨b, off + k, none⟩) (by show b < wo.heap.size; have := hbel.size; have := hB.size; omega)).trans ((hbel.cell (p := ⟨b, off + k, none⟩) (by show b < g; omega)).trans ((hB.cell (p := ⟨b, off + k, none⟩) hb).trans (hc k hlt2)))
          have c2 : wr.cell? ⟨g, k, none⟩ = some (.int .i64 (c.getD k 0)) := (hbq.cell (p := ⟨g, k, none⟩) hgl).trans (own_get HW.out k hlt2)
          have n1 := HNear.out k hlt2
          have e1 := HCc.out k hlt2
          rw [HC.out k hlt2] at e1
          have e2 := HG.out.2.2.2.1 _ (getD_mem zs k hlt2)
          have mb := mul_bd e2.1 e2.2 (show (0:Int) ≤ many by omega) g3
          rw [← e1] at n1
          have hc0 : 0 ≤ c.getD k 0 := by rw [e1]; omega
          have hm1 : 0 ≤ c.getD k 0 * s := Int.mul_nonneg hc0 (by omega)
          have hm2 : (c.getD k 0 + 1) * s = c.getD k 0 * s + s := by rw [Int.add_mul, Int.one_mul]
          have hm3 : 0 ≤ (c.getD k 0 + 1) * s := by omega
          have hm4 : (c.getD k 0 + 1) * s ≤ 1300000000 := by omega
          obtain ⟨n1, n2⟩ := n1
          have hc1 : c.getD k 0 ≤ 1000000000000 := by
            have : c.getD k 0 * 1 ≤ c.getD k 0 * s := Int.mul_le_mul_of_nonneg_left (by omega) hc0
            omega
          clear hc e1 e2 hm2
          generalize c.getD k 0 = x at *
          generalize zs.getD k 0 = y at *
          go_wp2_with fail
          go_roundw
          case rel => exact ⟨k + 1, by omega, by go_num, hbq⟩
          case measure => simp [intOf]; omega
        · obtain rfl : k = zs.length := by omega
          go_wp2_with fail
          go_ret
          exact ⟨rfl, (hB.trans (hbel.mono (by omega))).trans (hbq.mono (by have := hbel.size; have := hB.size; omega))⟩
theorem walk (a0 : Option Addr) (len0 cap0 : Nat) (z0 : List Int) (a1 : Int) (a2 : Int) (w : World) (w0 : IsRow .i64 w a0 len0 cap0 z0) (w1 : (Lit.int .i64 a1).wf = true) (w2 : (Lit.int .i64 a2).wf = true) :
    Calls Try.prog 3 #[.slice a0 len0 cap0, .int .i64 a1, .int .i64 a2] w fun e w' => e = .returned (.bool true) ∧ Below w.heap.size w w' := by
  have h := w0.rd.1
  by_cases hg : Good (z0.take len0) a1 ∧ 0 ≤ a2 ∧ a2 < (z0.take len0).sum
  · exact walk_good _ _ _ _ w h hg.1 hg.2.1 hg.2.2
  · exact walk_bad _ _ _ _ w h hg
end Go.Proofs.Ythkbcgafpaomnaa.ppsNear
