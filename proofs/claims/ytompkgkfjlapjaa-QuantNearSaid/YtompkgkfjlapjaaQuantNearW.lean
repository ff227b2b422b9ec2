/- The walk of QuantNear. Condition: rows within the reach. -/
import Derived.Test.YtompkgkfjlapjaaAl
import Derived.Test.YtompkgkfjlapjaaNearL
set_option linter.unusedSimpArgs false
set_option linter.unusedVariables false
namespace Go.Proofs.Ytompkgkfjlapjaa.quantNear
open Go.RowKit Go.Proofs.Ytompkgkfjlapjaa
theorem max3_run (a b : Int) (w : World) : (Builtin.max_ #[3, 3, 3] 3 #[.int .i64 a, .int .i64 b, .int .i64 0]).run Try.prog w = .ok (.int .i64 (max (max a b) 0)) w := by
  have h2 : ∀ (x y : Int) (w : World), (Builtin.max2 (.int .i64 x) (.int .i64 y)).run Try.prog w = .ok (.int .i64 (max x y)) w := fun x y w => by
    have e : (if x < y then y else x) = max x y := by split <;> omega
    simp [Builtin.max2, e]
  simp [Builtin.max_, List.foldlM, h2, Sem.run_bind, Result.andThen]
set_option maxHeartbeats 1600000 in
theorem run (p pl : Int) (v : Value) (zs : List Int) (w : World) (h : Rd w v zs) (hr : zs.length * 8 ≤ 140737488351232) :
    Calls Try.prog 5 #[.int .i64 p, v, .int .i64 pl] w fun e w' => e = .returned (.bool true) ∧ Below w.heap.size w w' := by
  obtain ⟨a, cap, rfl, hlc, hcm, hop⟩ := h.open
  have HR := Lib.hid h
  have HRE := Lib.hid hr
  generalize hn : zs.length = n at *
  have HN := Lib.hid hn
  have hnb : n ≤ 17592186043904 := by omega
  clear h hop hn hr
  go_enter Try.func5, Try.ntmps5
  go_wp2_with fail
  refine (alive_any w).mono ?_
  rintro e w1 ⟨rfl, hb1⟩
  have HB1 := Lib.hid hb1
  have HAL := Lib.hid (all_any p _ zs w1 (HR.out.below hb1 (Nat.le_refl _)))
  clear hb1
  go_wp2_with fail
  refine HAL.out.mono ?_
  rintro e w2 ⟨hb2, ⟨hp1, hp2, l, v', hall, rfl, ho, hinv, hl4, hc4⟩ | ⟨-, er, hne, rfl⟩⟩
  · have HB2 := Lib.hid (HB1.out.trans (hb2.mono HB1.out.size))
    obtain ⟨a', cap', rfl, -⟩ := ho.open
    have HALL : Hid (cnt l = n) := by show _ = _; rw [hinv.all, HN.out]
    by_cases hpl : 1 ≤ pl ∧ pl ≤ n
    · obtain ⟨q1, q2⟩ := hpl
      have hcn := HALL.out
      have HFI := Lib.hid (find_any p pl a' l.length cap' w1.heap.size l w2 ho rfl (hinv.right hp1 hp2 hl4 hc4) q1 (by omega))
      obtain ⟨x, hx⟩ : ∃ x, (fndS pl l).1 = x := ⟨_, rfl⟩
      rw [hx] at HFI
      obtain ⟨HE1, HE2⟩ : Hid (clt zs x + 1 ≤ cle zs x) ∧ Hid (max (max (clt zs x + 1 - pl) (pl - cle zs x)) 0 * p ≤ zs.length) := near_end hinv hp1 q1 (by rw [HN.out]; exact q2) x hx
      have t1 : decide (pl < 1) = false := decide_eq_false (by omega)
      have t2 : decide ((n : Int) < pl) = false := decide_eq_false (by omega)
      generalize l.length = m at *
      clear hb2 hall ho hinv hl4 hc4 HAL hcn hx
      go_wp2_with fail
      refine HFI.out.mono ?_
      rintro e w3 ⟨rfl, hb3⟩
      have HB3 := Lib.hid (HB2.out.trans (hb3.mono HB2.out.size))
      have HRX := Lib.hid (HR.out.below HB3.out (Nat.le_refl _))
      have HVA := Lib.hid (values_any _ zs w3 HRX.out)
      have HSO := Lib.hid (sorted_any _ zs w3 HRX.out (by rw [HN.out]; exact HRE.out))
      clear hb3 HFI
      go_wp2_with fail
      refine HVA.out.mono ?_
      rintro e w4 ⟨rfl, rfl⟩
      go_wp2_with fail
      refine HSO.out.mono ?_
      rintro e w4 ⟨v4, rfl, ho4, hb4⟩
      have HB4 := Lib.hid (HB3.out.trans (hb4.mono HB3.out.size))
      obtain ⟨a4, cap4, rfl, hlc4, hcm4, hop4⟩ := (Rd.own ho4).open
      rw [srt_len, HN.out] at hlc4 hop4
      have HOP := Lib.hid hop4
      rw [srt_len, HN.out]
      clear hb4 ho4 HVA HSO HRX hop4 t1 t2
      go_wp2_with fail
      go_loop [12] (fun kv => ∃ k : Nat, k ≤ n ∧ kv = .int .i64 k ∧ Hid (∀ j, j < k → (srt zs).getD j 0 < x)) (fun kv => n - (intOf kv).toNat)
      case atStart => exact ⟨0, Nat.zero_le _, rfl, fun j hj => absurd hj (Nat.not_lt_zero _)⟩
      case round =>
        obtain ⟨k, hk, rfl, HJ⟩ := hrel
        by_cases hgo : k < n ∧ (srt zs).getD k 0 < x
        · obtain ⟨hkn, hxk⟩ := hgo
          obtain ⟨b, off, rfl, -, hc⟩ := HOP.out k hkn
          have c0 := hc k hkn
          have HJn : Hid (∀ j, j < k + 1 → (srt zs).getD j 0 < x) := fun j hj => by
            rcases Nat.lt_succ_iff_lt_or_eq.1 hj with h | h
            · exact HJ.out j h
            · rw [h]; exact hxk
          have t1 : decide ((srt zs).getD k 0 < x) = true := decide_eq_true hxk
          clear hc
          generalize (srt zs).getD k 0 = y at *
          go_wp2_with fail
          go_round
          case rel => exact ⟨k + 1, by omega, by go_num, HJn.out⟩
          case measure => simp [intOf]; omega
        · have hge : k = n ∨ x ≤ (srt zs).getD k 0 := by
            rcases Nat.eq_or_lt_of_le hk with h | h
            · exact .inl h
            · exact .inr (Int.not_lt.1 fun h2 => hgo ⟨h, h2⟩)
          have HCL : Hid (clt zs x = k) := clt_srt zs x k (by rw [HN.out]; exact hk) HJ.out (by rw [HN.out]; exact hge)
          have HJ0 : Hid (∀ j, j < k → (srt zs).getD j 0 ≤ x) := fun j hj => Int.le_of_lt (HJ.out j hj)
          have HK : Hid (k = n ∨ x ≤ (srt zs).getD k 0) := hge
          have hstop : (k < n → decide ((srt zs).getD k 0 < x) = false) := fun h => decide_eq_false fun h2 => hgo ⟨h, h2⟩
          have HST := Lib.hid hstop
          clear hgo hge hstop HJ
          rcases Nat.eq_or_lt_of_le hk with h1 | h1
          · exfalso
            have e1 := HE1.out
            rw [HCL.out] at e1
            have e2 : cle zs x ≤ n := by
              unfold cle
              have := List.countP_le_length (p := fun y => decide (y ≤ x)) (l := zs)
              rw [HN.out] at this
              omega
            omega
          · obtain ⟨b0, off0, rfl, -, hc0⟩ := HOP.out k h1
            have c0 := hc0 k h1
            have t1 := HST.out h1
            clear hc0
            generalize hy0 : (srt zs).getD k 0 = y0 at c0 t1
            clear hy0
            go_wp2_with fail
            go_loop [13] (fun kv => ∃ q : Nat, k ≤ q ∧ q ≤ n ∧ kv = .int .i64 q ∧ Hid (∀ j, j < q → (srt zs).getD j 0 ≤ x)) (fun kv => n - (intOf kv).toNat)
            case atStart => exact ⟨k, Nat.le_refl _, hk, rfl, HJ0.out⟩
            case round =>
              obtain ⟨q, hq1, hq2, rfl, HQ⟩ := hrel
              by_cases hgo2 : q < n ∧ (srt zs).getD q 0 = x
              · obtain ⟨hqn, hxq⟩ := hgo2
                obtain ⟨b, off, ha4, -, hc⟩ := HOP.out q hqn
                have c9 := hc q hqn
                rw [hxq] at c9
                have HQn : Hid (∀ j, j < q + 1 → (srt zs).getD j 0 ≤ x) := fun j hj => by
                  rcases Nat.lt_succ_iff_lt_or_eq.1 hj with h | h
                  · exact HQ.out j h
                  · rw [h, hxq]; exact Int.le_refl _
                have t9 : (x == x) = true := by simp
                clear hc hxq
                cases ha4
                go_wp2_with fail
                go_round
                case rel => exact ⟨q + 1, by omega, by omega, by go_num, HQn.out⟩
                case measure => simp [intOf]; omega
              · rcases Nat.eq_or_lt_of_le hq2 with h9 | h9
                · subst h9
                  have HCE : Hid (cle zs x = q) := cle_srt zs x q (by rw [HN.out]; exact Nat.le_refl _) HQ.out (by
                    rw [HN.out]
                    rcases Nat.eq_or_lt_of_le (Nat.le_refl q) with h | h
                    · exact .inl h
                    · right
                      have hx : x ≤ (srt zs).getD q 0 := by
                        rcases HK.out with h3 | h3
                        · omega
                        · have := sorted_le (srt_up zs) hq1 (by rw [srt_len, HN.out]; exact h)
                          omega
                      have hne : (srt zs).getD q 0 ≠ x := fun h2 => hgo2 ⟨h, h2⟩
                      omega)
                  have e1 := HE1.out
                  have e2 := HE2.out
                  rw [HCL.out, HCE.out] at e1 e2
                  rw [HN.out] at e2
                  have u1 : decide (k < q) = true := decide_eq_true (by omega)
                  have u2 : decide ((k : Int) < (q : Int)) = true := decide_eq_true (by omega)
                  obtain ⟨d1, hd1⟩ : ∃ d, (k : Int) + 1 - pl = d := ⟨_, rfl⟩
                  obtain ⟨d2, hd2⟩ : ∃ d, pl - (q : Int) = d := ⟨_, rfl⟩
                  rw [hd1, hd2] at e2
                  have emax := fun (w : World) => max3_run d1 d2 w
                  obtain ⟨F, hF⟩ : ∃ F, max (max d1 d2) 0 = F := ⟨_, rfl⟩
                  rw [hF] at e2 emax
                  have hF0 : 0 ≤ F := by omega
                  obtain ⟨FP, hFP⟩ : ∃ FP, F * p = FP := ⟨_, rfl⟩
                  have hFP0 : 0 ≤ FP := by rw [← hFP]; exact Int.mul_nonneg hF0 (by omega)
                  rw [hFP] at e2
                  have x1 : IntKind.i64.wrap ((k : Int) + 1 - pl) = d1 := by rw [IntKind.wrap_i64]; omega
                  have x2 : IntKind.i64.wrap (pl - (q : Int)) = d2 := by rw [IntKind.wrap_i64]; omega
                  have x3 : IntKind.i64.wrap (F * p) = FP := by rw [IntKind.wrap_i64, hFP]; omega
                  have u3 : decide (FP ≤ (q : Int)) = true := decide_eq_true e2
                  clear e1 e2 hd1 hd2 hF hF0 hFP hFP0 HJ0 HST
                  clear hgo2
                  go_wp2_with fail
                  go_ret
                  exact ⟨rfl, HB4.out⟩
                · obtain ⟨b, off, ha4, -, hc⟩ := HOP.out q h9
                  have c9 := hc q h9
                  have t9 : ((srt zs).getD q 0 == x) = false := by rw [beq_eq_false_iff_ne]; exact fun h2 => hgo2 ⟨h9, h2⟩
                  clear hc
                  have HCE : Hid (cle zs x = q) := cle_srt zs x q (by rw [HN.out]; exact hq2) HQ.out (by
                    rw [HN.out]
                    rcases Nat.eq_or_lt_of_le hq2 with h | h
                    · exact .inl h
                    · right
                      have hx : x ≤ (srt zs).getD q 0 := by
                        rcases HK.out with h3 | h3
                        · omega
                        · have := sorted_le (srt_up zs) hq1 (by rw [srt_len, HN.out]; exact h)
                          omega
                      have hne : (srt zs).getD q 0 ≠ x := fun h2 => hgo2 ⟨h, h2⟩
                      omega)
                  have e1 := HE1.out
                  have e2 := HE2.out
                  rw [HCL.out, HCE.out] at e1 e2
                  rw [HN.out] at e2
                  have u1 : decide (k < q) = true := decide_eq_true (by omega)
                  have u2 : decide ((k : Int) < (q : Int)) = true := decide_eq_true (by omega)
                  obtain ⟨d1, hd1⟩ : ∃ d, (k : Int) + 1 - pl = d := ⟨_, rfl⟩
                  obtain ⟨d2, hd2⟩ : ∃ d, pl - (q : Int) = d := ⟨_, rfl⟩
                  rw [hd1, hd2] at e2
                  have emax := fun (w : World) => max3_run d1 d2 w
                  obtain ⟨F, hF⟩ : ∃ F, max (max d1 d2) 0 = F := ⟨_, rfl⟩
                  rw [hF] at e2 emax
                  have hF0 : 0 ≤ F := by omega
                  obtain ⟨FP, hFP⟩ : ∃ FP, F * p = FP := ⟨_, rfl⟩
                  have hFP0 : 0 ≤ FP := by rw [← hFP]; exact Int.mul_nonneg hF0 (by omega)
                  rw [hFP] at e2
                  have x1 : IntKind.i64.wrap ((k : Int) + 1 - pl) = d1 := by rw [IntKind.wrap_i64]; omega
                  have x2 : IntKind.i64.wrap (pl - (q : Int)) = d2 := by rw [IntKind.wrap_i64]; omega
                  have x3 : IntKind.i64.wrap (F * p) = FP := by rw [IntKind.wrap_i64, hFP]; omega
                  have u3 : decide (FP ≤ (n : Int)) = true := decide_eq_true e2
                  clear e1 e2 hd1 hd2 hF hF0 hFP hFP0 HJ0 HST
                  clear hgo2
                  cases ha4
                  generalize (srt zs).getD q 0 = y9 at *
                  go_wp2_with fail
                  go_ret
                  exact ⟨rfl, HB4.out⟩
    · have hcn := HALL.out
      have HFI := Lib.hid (find_out p pl a' l.length cap' w1.heap.size l w2 ho rfl (hinv.right hp1 hp2 hl4 hc4) (by omega))
      generalize l.length = m at *
      clear hb2 hall ho hinv hl4 hc4 HAL hcn
      by_cases h1 : pl < 1
      · have t1 : decide (pl < 1) = true := decide_eq_true h1
        clear hpl
        go_wp2_with fail
        refine HFI.out.mono ?_
        rintro e w3 ⟨rfl, hb3⟩
        have HB3 := Lib.hid (HB2.out.trans (hb3.mono HB2.out.size))
        clear hb3 HFI
        go_wp2_with fail
        go_ret
        exact ⟨rfl, HB3.out⟩
      · have t1 : decide (pl < 1) = false := decide_eq_false h1
        have t2 : decide ((n : Int) < pl) = true := decide_eq_true (by omega)
        clear hpl h1
        go_wp2_with fail
        refine HFI.out.mono ?_
        rintro e w3 ⟨rfl, hb3⟩
        have HB3 := Lib.hid (HB2.out.trans (hb3.mono HB2.out.size))
        clear hb3 HFI
        go_wp2_with fail
        go_ret
        exact ⟨rfl, HB3.out⟩
  · have HB2 := Lib.hid (HB1.out.trans (hb2.mono HB1.out.size))
    have hn1 : ((er : Int) != 0) = true := by rw [bne_iff_ne]; omega
    clear hb2 hne HAL
    go_wp2_with fail
    go_ret
    exact ⟨rfl, HB2.out⟩
theorem walk (p : Int) (a1 : Option Addr) (len1 cap1 : Nat) (z1 : List Int) (pl : Int) (w : World) (w0 : (Lit.int .i64 p).wf = true) (w1 : IsRow .i64 w a1 len1 cap1 z1) (r1 : len1 * 8 ≤ 140737488351232) (w2 : (Lit.int .i64 pl).wf = true) :
    Calls Try.prog 5 #[.int .i64 p, .slice a1 len1 cap1, .int .i64 pl] w fun e w' => e = .returned (.bool true) ∧ Below w.heap.size w w' := by
  obtain ⟨h1, g1⟩ := w1.rd
  have hl : (z1.take len1).length = len1 := by
    obtain ⟨a', c', he, -⟩ := h1.open
    injection he with _ h5 _
    exact h5.symm
  exact run p pl _ _ w h1 (by rw [hl]; exact r1)
end Go.Proofs.Ytompkgkfjlapjaa.quantNear
