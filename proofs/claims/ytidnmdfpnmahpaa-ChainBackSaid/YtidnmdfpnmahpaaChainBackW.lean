/- The walk of ChainBack. No condition. -/
import Derived.Test.YtidnmdfpnmahpaaAl
import Derived.Test.YtidnmdfpnmahpaaBackL
import Derived.Test.YtidnmdfpnmahpaaMatIn
set_option linter.unusedSimpArgs false
set_option linter.unusedVariables false
namespace Go.Proofs.Ytidnmdfpnmahpaa.chainBack
open Go.RowKit Go.Proofs.Ytidnmdfpnmahpaa
theorem drewN_below (w : World) (q : Nat) : Below w.heap.size w (w.drewN q) := (Below.refl _ _).drewN q
set_option maxHeartbeats 1000000 in
set_option maxRecDepth 20000 in
theorem run (a : Option Addr) (n c : Nat) (M : List (List Int)) (w : World) (h : RdM w (.slice a n c) M) (hg : Good n M) (hw : wholeF (posM M) n = true) :
    Calls Try.prog 4 #[.slice a n c] w fun e w' => e = .returned (.bool true) ∧ Below w.heap.size w w' := by
  obtain ⟨hl, hc1, hc2⟩ := h.lenEq
  have h1n := hg.2.1
  have h5n := hg.2.2.1
  have HM := Lib.hid h
  have HG : Hid (∀ i, i < n → (M.getD i []).length = n ∧ ∀ x ∈ M.getD i [], 0 ≤ x ∧ x ≤ 9) := fun i hi => by
    obtain ⟨r1, r2, -⟩ := hg.2.2.2 _ (getD_mem M i [] (by omega))
    exact ⟨r1, r2⟩
  have HRE : Hid (∀ X, Below w.heap.size w X → Calls Try.prog 9 #[.slice a n c] X fun e w' => Below X.heap.size X w' ∧ ∃ g cap, e = .returned (.tuple #[.slice (some ⟨g, 0, none⟩) n cap, .int .i64 0]) ∧ Rd w' (.slice (some ⟨g, 0, none⟩) n cap) (castN (restN M n))) := fun X hX => rest_run a n c M X (h.below hX (Nat.le_refl _)) hg hw
  have HBA := Lib.hid (rest_back hg)
  have HRB := Lib.hid (restN_bd hg)
  have HSB := Lib.hid (sum_bd45 hg)
  have hnn : ((n : Int) != (n : Int)) = false := by simp
  clear h hg hl hw
  generalize restN M n = R at *
  go_enter Try.func4, Try.ntmps4
  go_wp2_with fail
  refine (alive_any w).mono ?_
  rintro e w1 ⟨rfl, hb1⟩
  have HB1 := Lib.hid hb1
  clear hb1
  go_wp2_with fail
  refine (HRE.out w1 HB1.out).mono ?_
  rintro e w2 ⟨hb2, g, cap, rfl, hr2⟩
  have HB2 := Lib.hid (HB1.out.trans (hb2.mono HB1.out.size))
  have HR2 := Lib.hid hr2
  clear hb2 hr2
  go_wp2_with fail
  go_loopw [29] (fun iv wr => ∃ i : Nat, i ≤ n ∧ iv = .int .i64 i ∧ Hid (∀ p q, p < i → q < n → (M.getD p []).getD q 0 = (M.getD q []).getD p 0) ∧ Hid (Below w.heap.size w wr ∧ Rd wr (.slice (some ⟨g, 0, none⟩) n cap) (castN R))) (fun iv _ => n - (intOf iv).toNat)
  case atStart => exact ⟨0, Nat.zero_le _, rfl, (fun p q hp => absurd hp (Nat.not_lt_zero _)), HB2.out, HR2.out⟩
  case round =>
    obtain ⟨i, hi, rfl, HS, HW⟩ := hrel
    by_cases hil : i < n
    · have hiI : (i : Int) < (n : Int) := by omega
      go_wp2_with fail
      go_loopw [34] (fun jv wr => ∃ j : Nat, j ≤ n ∧ jv = .int .i64 j ∧ Hid (∀ q, q < j → (M.getD i []).getD q 0 = (M.getD q []).getD i 0) ∧ Hid (Below w.heap.size w wr ∧ Rd wr (.slice (some ⟨g, 0, none⟩) n cap) (castN R))) (fun jv _ => n - (intOf jv).toNat)
      case atStart => exact ⟨0, Nat.zero_le _, rfl, (fun q hq => absurd hq (Nat.not_lt_zero _)), HW.out⟩
      case round =>
        clear HW
        obtain ⟨j, hj, rfl, HJ, HW⟩ := hrel
        by_cases hjl : j < n
        · have hjI : (j : Int) < (n : Int) := by omega
          have HBr : Hid (Below w.heap.size w wr) := HW.out.1
          obtain ⟨b, off, a1, c1, rfl, hb, cri, hri⟩ := (HM.out.below HBr.out (Nat.le_refl _)).row hil
          obtain ⟨b', off', a2, c2, he', -, crj, hrj⟩ := (HM.out.below HBr.out (Nat.le_refl _)).row hjl
          cases he'
          rw [(HG.out i hil).1] at cri hri
          rw [(HG.out j hjl).1] at crj hrj
          obtain ⟨b1, o1, rfl, -, hci⟩ := hri.at (by omega)
          obtain ⟨b2, o2, rfl, -, hcj⟩ := hrj.at (by omega)
          have ci := hci j hjl
          have cj := hcj i hil
          have p1 : (0 ≤ (i : Int) ∧ (i : Int) < (n : Int)) = True := eq_true ⟨Int.natCast_nonneg _, hiI⟩
          have p2 : (0 ≤ (j : Int) ∧ (j : Int) < (n : Int)) = True := eq_true ⟨Int.natCast_nonneg _, hjI⟩
          have HEX : Hid ((M.getD i []).getD j 0 = (M.getD i []).getD j 0) := rfl
          by_cases hxy : (M.getD i []).getD j 0 = (M.getD j []).getD i 0
          · have HXY := Lib.hid hxy
            rw [← hxy] at cj
            have HJn : Hid (∀ q, q < j + 1 → (M.getD i []).getD q 0 = (M.getD q []).getD i 0) := fun q hq => by
              by_cases e : q = j
              · rw [e]; exact HXY.out
              · exact HJ.out q (by omega)
            generalize (M.getD i []).getD j 0 = x at *
            have hne : (x != x) = false := by simp
            clear hxy hci hcj hri hrj
            go_wp2_with fail
            go_quiet (fail)
            go_wp2_with fail
            go_roundw
            case rel => exact ⟨j + 1, by omega, by go_num, HJn.out, ⟨HBr.out.drewN _, HW.out.2.below (drewN_below _ _) (Nat.le_refl _)⟩⟩
            case measure => simp [intOf]; omega
          · generalize (M.getD i []).getD j 0 = x at *
            generalize (M.getD j []).getD i 0 = y at *
            have hne : (x != y) = true := by rw [bne_iff_ne]; exact hxy
            clear hxy hci hcj hri hrj
            go_wp2_with fail
            go_quiet (fail)
            go_wp2_with fail
            go_ret
            exact ⟨rfl, HBr.out.drewN _⟩
        · obtain rfl : j = n := by omega
          have HSn : Hid (∀ p q, p < i + 1 → q < j → (M.getD p []).getD q 0 = (M.getD q []).getD p 0) := fun p q hp hq => by
            by_cases e : p = i
            · rw [e]; exact HJ.out q hq
            · exact HS.out p q (by omega) hq
          go_wp2_with fail
          exact ⟨⟨i + 1, by omega, by go_num, HSn.out, HW.out⟩, by simp [intOf]; omega⟩
    · obtain rfl : i = n := by omega
      have HBK : Hid (∀ p q, p < i → q < i → (R.getD p 0 : Int) * sumL (M.getD q []) = (R.getD q 0 : Int) * sumL (M.getD p [])) := HBA.out HS.out
      go_wp2_with fail
      go_loopw [56] (fun pv wr => ∃ p : Nat, p ≤ i ∧ pv = .int .i64 p ∧ Hid (Below w.heap.size w wr ∧ Rd wr (.slice (some ⟨g, 0, none⟩) i cap) (castN R))) (fun pv _ => i - (intOf pv).toNat)
      case atStart => exact ⟨0, Nat.zero_le _, rfl, HW.out⟩
      case round =>
        clear HW
        obtain ⟨p, hp, rfl, HW⟩ := hrel
        by_cases hpl : p < i
        · have hpI : (p : Int) < (i : Int) := by omega
          go_wp2_with fail
          go_loopw [61] (fun qv wr => ∃ q : Nat, q ≤ i ∧ qv = .int .i64 q ∧ Hid (Below w.heap.size w wr ∧ Rd wr (.slice (some ⟨g, 0, none⟩) i cap) (castN R))) (fun qv _ => i - (intOf qv).toNat)
          case atStart => exact ⟨0, Nat.zero_le _, rfl, HW.out⟩
          case round =>
            clear HW
            obtain ⟨q, hq, rfl, HW⟩ := hrel
            by_cases hql : q < i
            · have hqI : (q : Int) < (i : Int) := by omega
              have HBr : Hid (Below w.heap.size w wr) := HW.out.1
              obtain ⟨b, off, a1, c1, rfl, hb, cri, hri⟩ := (HM.out.below HBr.out (Nat.le_refl _)).row hpl
              obtain ⟨b', off', a2, c2, he', -, crj, hrj⟩ := (HM.out.below HBr.out (Nat.le_refl _)).row hql
              cases he'
              rw [(HG.out p hpl).1] at cri hri
              rw [(HG.out q hql).1] at crj hrj
              obtain ⟨bg, og, hge, -, hcg⟩ := HW.out.2.at (by omega)
              cases hge
              have gp := hcg p hpl
              have gq := hcg q hql
              rw [castN_get] at gp gq
              rw [Nat.zero_add] at gp gq
              have HT1 : Hid (∀ m, Calls Try.prog 11 #[.slice a1 i c1] (wr.drewN m) fun e w' => e = .returned (.int .i64 (sumL (M.getD p []))) ∧ ∃ m', w' = wr.drewN m') := fun m => (total_any a1 i c1 _ _ (hri.below (drewN_below _ _) (Nat.le_refl _)) (fun x hx => by have := (HG.out p hpl).2 x hx; omega) (by omega)).mono fun e w' ⟨h1, h2⟩ => ⟨h1, m, h2.symm⟩
              have HT2 : Hid (∀ m, Calls Try.prog 11 #[.slice a2 i c2] (wr.drewN m) fun e w' => e = .returned (.int .i64 (sumL (M.getD q []))) ∧ ∃ m', w' = wr.drewN m') := fun m => (total_any a2 i c2 _ _ (hrj.below (drewN_below _ _) (Nat.le_refl _)) (fun x hx => by have := (HG.out q hql).2 x hx; omega) (by omega)).mono fun e w' ⟨h1, h2⟩ => ⟨h1, m, h2.symm⟩
              have hbk := HBK.out p q hpl hql
              have rp := HRB.out p hpl
              have rq := HRB.out q hql
              obtain ⟨s1, s2⟩ := HSB.out p hpl
              obtain ⟨t1, t2⟩ := HSB.out q hql
              have p1 : (0 ≤ (p : Int) ∧ (p : Int) < (i : Int)) = True := eq_true ⟨Int.natCast_nonneg _, hpI⟩
              have p2 : (0 ≤ (q : Int) ∧ (q : Int) < (i : Int)) = True := eq_true ⟨Int.natCast_nonneg _, hqI⟩
              clear hri hrj hcg
              generalize R.getD p 0 = x at *
              generalize R.getD q 0 = y at *
              generalize sumL (M.getD p []) = s at *
              generalize sumL (M.getD q []) = t at *
              obtain ⟨P, hP⟩ : ∃ P, (x : Int) * t = P := ⟨_, rfl⟩
              have hPb : 0 ≤ P ∧ P ≤ 199290375000 := by
                rw [← hP]
                refine ⟨Int.mul_nonneg (by omega) (by omega), ?_⟩
                have : (x : Int) * t ≤ 4428675000 * 45 := Int.mul_le_mul (by omega) t2 (by omega) (by decide)
                omega
              have hP2 : (y : Int) * s = P := hbk.symm.trans hP
              have hPw : IntKind.i64.wrap P = P := by rw [IntKind.wrap_i64]; omega
              have hPn : (P != P) = false := by simp
              clear hbk
              go_wp2_with fail
              go_quiet ((go_at_call 11; first | (with_reducible exact HT1.out _) | (with_reducible exact HT2.out _)))
              go_wp2_with fail
              go_roundw
              case rel => exact ⟨q + 1, by omega, by go_num, HBr.out.drewN _, HW.out.2.below (drewN_below _ _) (Nat.le_refl _)⟩
              case measure => simp [intOf]; omega
            · obtain rfl : q = i := by omega
              go_wp2_with fail
              exact ⟨⟨p + 1, by omega, by go_num, HW.out⟩, by simp [intOf]; omega⟩
        · obtain rfl : p = i := by omega
          go_wp2_with fail
          go_ret
          exact ⟨rfl, HW.out.1⟩
theorem none' (a : Option Addr) (n c : Nat) (M : List (List Int)) (w : World) (h : RdM w (.slice a n c) M) (hw : wrongN M ≠ 0 ∨ (Good n M ∧ wholeF (posM M) n = false)) :
    Calls Try.prog 4 #[.slice a n c] w fun e w' => e = .returned (.bool true) ∧ Below w.heap.size w w' := by
  have HRE : Hid (∀ X, Below w.heap.size w X → Calls Try.prog 9 #[.slice a n c] X fun e w' => ∃ er : Nat, er ≠ 0 ∧ e = .returned (.tuple #[.slice none 0 0, .int .i64 er]) ∧ Below X.heap.size X w') := fun X hX => by
    rcases hw with hw | ⟨hg, hw⟩
    · exact (rest_err a n c M X (h.below hX (Nat.le_refl _)) hw).mono fun e w' ⟨h1, h2⟩ => ⟨_, hw, h1, h2 ▸ Below.refl _ _⟩
    · exact (rest_none a n c M X (h.below hX (Nat.le_refl _)) hg hw).mono fun e w' ⟨h1, h2⟩ => ⟨3, by decide, h1, h2⟩
  clear h hw
  go_enter Try.func4, Try.ntmps4
  go_wp2_with fail
  refine (alive_any w).mono ?_
  rintro e w1 ⟨rfl, hb1⟩
  have HB1 := Lib.hid hb1
  clear hb1
  go_wp2_with fail
  refine (HRE.out w1 HB1.out).mono ?_
  rintro e w2 ⟨er, hne, rfl, hb2⟩
  have HB2 := Lib.hid (HB1.out.trans (hb2.mono HB1.out.size))
  have he : ((er : Int) != 0) = true := by rw [bne_iff_ne]; omega
  clear hb2 hne
  go_wp2_with fail
  go_ret
  exact ⟨by simp [he], HB2.out⟩
theorem walk (x0 : Option Addr × Nat × Nat × List (List Int)) (w : World) (h : RdM w (.slice x0.1 x0.2.1 x0.2.2.1) x0.2.2.2) :
    Calls Try.prog 4 #[.slice x0.1 x0.2.1 x0.2.2.1] w fun e w' => e = .returned (.bool true) ∧ Below w.heap.size w w' := by
  obtain ⟨a, n, c, M⟩ := x0
  simp only at h ⊢
  obtain ⟨hl, hc1, hc2⟩ := h.lenEq
  by_cases hw : wrongN M = 0
  · have hg := (wrong_good M).1 hw
    rw [hl] at hg
    cases hwh : wholeF (posM M) n with
    | true => exact run a n c M w h hg hwh
    | false => exact none' a n c M w h (.inr ⟨hg, hwh⟩)
  · exact none' a n c M w h (.inl hw)
end Go.Proofs.Ytidnmdfpnmahpaa.chainBack
