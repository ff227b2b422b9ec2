/- The walk of PpsJust. No condition. -/
import Derived.Test.YthkbcgafpaomnaaAlive
import Derived.Test.YthkbcgafpaomnaaJustLaw
set_option linter.unusedSimpArgs false
set_option linter.unusedVariables false
namespace Go.Proofs.Ythkbcgafpaomnaa.ppsJust
open Go.RowKit Go.Proofs.Ythkbcgafpaomnaa
theorem share_good (v : Value) (zs : List Int) (many : Int) (k : Nat) (w : World) (h : Rd w v zs) (hg : Good zs many) (hk : k < zs.length) : Calls Try.prog 12 #[v, .int .i64 many, .int .i64 k] w fun e w' => e = .returned (.tuple #[.int .i64 (zs.getD k 0 * many), .int .i64 0]) ∧ w = w' := by
  have HR := Lib.hid h
  have HG := Lib.hid hg
  obtain ⟨a, cap, rfl, hlc, hcm, hop⟩ := h.open
  obtain ⟨b, off, rfl, hb, hc⟩ := hop k hk
  have c1 := hc k hk
  have hgk := hg.2.2.2.1 _ (getD_mem zs k hk)
  have hmb := mul_bd hgk.1 hgk.2 (show 0 ≤ many by have := hg.2.1; omega) hg.2.2.1
  clear hc hop hg h hgk
  generalize zs.getD k 0 = y at *
  go_enter Try.func12, Try.ntmps12
  go_wp2_with fail
  refine (sum_any _ _ _ _ HR.out).mono ?_
  rintro e w1 ⟨s, c, rfl, rfl, hs, _⟩
  obtain ⟨hs', rfl⟩ := hs HG.out
  clear hs hs'
  go_wp2_with fail
  go_ret2
  exact ⟨rfl, rfl⟩
theorem walk_bad (v : Value) (zs : List Int) (many : Int) (w : World) (h : Rd w v zs) (hg : ¬ Good zs many) : Calls Try.prog 5 #[v, .int .i64 many] w fun e w' => e = .returned (.bool true) ∧ Below w.heap.size w w' := by
  have HR := Lib.hid h; clear h
  go_enter Try.func5, Try.ntmps5
  go_wp2_with fail
  refine (alive_any _).mono ?_
  rintro e w1 ⟨rfl, hb1⟩
  go_wp2_with fail
  refine (sum_any v zs many _ (HR.out.below hb1 (Nat.le_refl _))).mono ?_
  rintro e w2 ⟨s, c2, rfl, rfl, _, hs⟩
  obtain ⟨_, hc⟩ := hs hg
  clear hs
  have hc' : (c2 != 0) = true := by rw [bne_iff_ne]; omega
  go_wp2_with fail
  go_ret
  exact ⟨by simp, hb1⟩
theorem walk_big (v : Value) (zs : List Int) (many : Int) (w : World) (h : Rd w v zs) (hg : Good zs many) (hx : 300 < zs.sum ∨ 20 < many) : Calls Try.prog 5 #[v, .int .i64 many] w fun e w' => e = .returned (.bool true) ∧ Below w.heap.size w w' := by
  have HR := Lib.hid h; clear h
  have HG := Lib.hid hg; clear hg
  generalize hS : zs.sum = S at *
  have HS := Lib.hid hS; clear hS
  by_cases h1 : 300 < S
  · clear hx
    go_enter Try.func5, Try.ntmps5
    go_wp2_with fail
    refine (alive_any _).mono ?_
    rintro e w1 ⟨rfl, hb1⟩
    go_wp2_with fail
    refine (sum_any v zs many _ (HR.out.below hb1 (Nat.le_refl _))).mono ?_
    rintro e w2 ⟨s, c2, rfl, rfl, hs, _⟩
    obtain ⟨hs', rfl⟩ := hs HG.out
    rw [HS.out] at hs'
    subst hs'
    clear hs
    go_wp2_with fail
    go_ret
    exact ⟨by simp, hb1⟩
  · have h2 : 20 < many := by omega
    clear hx
    go_enter Try.func5, Try.ntmps5
    go_wp2_with fail
    refine (alive_any _).mono ?_
    rintro e w1 ⟨rfl, hb1⟩
    go_wp2_with fail
    refine (sum_any v zs many _ (HR.out.below hb1 (Nat.le_refl _))).mono ?_
    rintro e w2 ⟨s, c2, rfl, rfl, hs, _⟩
    obtain ⟨hs', rfl⟩ := hs HG.out
    rw [HS.out] at hs'
    subst hs'
    clear hs
    go_wp2_with fail
    go_ret
    exact ⟨by simp, hb1⟩
set_option maxHeartbeats 1600000 in
theorem walk_good (v : Value) (zs : List Int) (many : Int) (w : World) (h : Rd w v zs) (hg : Good zs many) (S : Nat) (hS : zs.sum = S) (hS1 : S ≤ 300) (hm20 : many ≤ 20) : Calls Try.prog 5 #[v, .int .i64 many] w fun e w' => e = .returned (.bool true) ∧ Below w.heap.size w w' := by
  obtain ⟨i0, hi, hz0, hz1, hz2⟩ := info_parts Try.info3'
  have HR := Lib.hid h
  have HG := Lib.hid hg; clear hg
  have HS := Lib.hid hS; clear hS
  obtain ⟨a, cap, rfl, hlc, hcm, hop⟩ := h.open
  clear hop h
  have hl400 : zs.length ≤ 400 := HG.out.1
  have g2 := HG.out.2.1
  have hS0 : 0 < S := by have h1 := HG.out.2.2.2.2; have h2 := sum_bd _ HG.out.2.2.2.1; have h3 := HS.out; omega
  go_enter Try.func5, Try.ntmps5
  go_wp2_with fail
  refine (alive_any _).mono ?_
  rintro e w1 ⟨rfl, hb1⟩
  go_wp2_with fail
  refine (sum_any _ zs many _ (HR.out.below hb1 (Nat.le_refl _))).mono ?_
  rintro e w3 ⟨s, c2, rfl, rfl, hs, _⟩
  obtain ⟨hs', rfl⟩ := hs HG.out
  rw [HS.out] at hs'
  subst hs'
  clear hs
  have hsz := hb1.size
  go_wp2_with (refine wpList_make_full _ rfl _ _ 22 rfl w1.heap.size 3 i0 (.int .i64 0) 1 Try.underlying22 hi hz0 hz1 .i64 .i64 _ _ zs.length rfl rfl rfl rfl ?b2 ?b3 (Nat.le_refl _) ?_)
  case b2 => rw [hz2]; omega
  case b3 => unfold maxLen; omega
  intro w4 hown hgr
  rw [zeros_eq] at hown
  have hB4 : Below w1.heap.size w1 w4 := (Below.refl _ _).grown hgr (Nat.le_refl _) (fun k hk => by cases hk)
  clear hgr
  go_wp2_with fail
  generalize hgg : w1.heap.size = g at *
  have HGG := Lib.hid hgg; clear hgg
  go_loopw [39] (fun i wr => ∃ (s : Nat) (c : List Int), s ≤ S ∧ i = .int .i64 s ∧ wr.ownsRow g 3 1 (.slice (some ⟨g, 0, none⟩) zs.length zs.length) zs.length (c.map (Value.int .i64)) ∧ Hid (Acc c (A zs many s) [] 0 zs.length) ∧ Below g w1 wr) (fun i _ => S - (intOf i).toNat)
  case atStart => exact ⟨0, _, Nat.zero_le _, rfl, hown, Acc.zero zs many _, hB4⟩
  case round =>
    clear hown hB4
    obtain ⟨s, c, hs, rfl, hown, hacc, hbel⟩ := hrel
    by_cases hlt : s < S
    · have hRw : Rd wr (.slice a zs.length cap) zs := (HR.out.below hb1 (Nat.le_refl _)).below hbel (Nat.le_of_eq HGG.out)
      have HRw := Lib.hid hRw; clear hRw
      go_wp2_with fail
      refine (take_good _ zs many s _ HRw.out HG.out (by omega) (by rw [HS.out]; omega)).mono ?_
      rintro e w5 ⟨v5, rfl, hown5, hb5⟩
      have hrd := Rd.own hown5
      have hs0 : 0 < zs.sum := by rw [HS.out]; omega
      have HM := Lib.hid (tk_mem zs many s zs.sum hs0 zs.length (Nat.le_refl _))
      have hlen := tk_len zs many s zs.sum zs.length (Nat.le_refl _) HG.out.2.2.2.1 (by omega) (by omega) hs0
      have hlm := L_all zs many s (by omega) (by omega) (by rw [HS.out]; omega)
      have HQ := Lib.hid (rfl : tk zs many s zs.sum zs.length = tk zs many s zs.sum zs.length)
      generalize hTT : tk zs many s zs.sum zs.length = T at *
      clear HQ
      have HTT := Lib.hid hTT; clear hTT
      have hTl : T.length ≤ 400 := by omega
      have HBD := Lib.hid (fun k => A_bd zs many s k (by omega) HG.out.2.2.2.1 (by omega) (by omega) (by rw [HS.out]; omega) hs0)
      clear hlen hlm hs0
      have hgr := (own_lt hown).2
      have hown6 := own_below hown hb5 (Nat.le_refl _)
      have hacc6 : Hid (Acc c (A zs many s) T 0 zs.length) := hacc.out.first
      have hbel6 := hbel.trans (hb5.mono (by omega))
      clear hown hbel hacc hrd
      have htl : T.length = L zs many s zs.sum zs.length := by have := hown5.1; simpa using this
      rw [← htl] at hown5
      have hrd := Rd.own hown5
      obtain ⟨a2, cap2, rfl, hlc2, hcm2, hop2⟩ := hrd.open
      clear hrd hop2 htl HRw
      have hwv := hb5.size
      clear hb5
      generalize hq : wr.heap.size = q at *
      have HQ := Lib.hid hq; clear hq
      go_wp2_with fail
      obtain ⟨wo, rfl⟩ : ∃ wo : World, wo = w5 := ⟨_, rfl⟩
      go_loopw [53] (fun i wq => ∃ (k : Nat) (c : List Int), k ≤ T.length ∧ i = .int .i64 k ∧ wq.ownsRow g 3 1 (.slice (some ⟨g, 0, none⟩) zs.length zs.length) zs.length (c.map (Value.int .i64)) ∧ wq.ownsRow q 3 1 (.slice a2 T.length cap2) T.length (T.map (Value.int .i64)) ∧ Hid (Acc c (A zs many s) T k zs.length) ∧ Below g w1 wq) (fun i _ => T.length - (intOf i).toNat)
      case atStart => exact ⟨0, c, Nat.zero_le _, rfl, hown6, hown5, hacc6, hbel6⟩
      case round =>
        clear hown6 hown5 hacc6 hbel6
        obtain ⟨k, c, hk, rfl, hown, hownT, hacc, hbel⟩ := hrel
        by_cases hlt2 : k < T.length
        · obtain ⟨g2, cap3, hv, -, -, -, -, -⟩ := own_open hownT (by omega)
          simp only [Value.slice.injEq] at hv
          obtain ⟨rfl, -, -⟩ := hv
          have c1 := own_get hownT k hlt2
          obtain ⟨i, hi1, hi2, hi3⟩ := HM.out (T.getD k 0) (getD_mem T k hlt2)
          rw [hi1] at c1
          have c2 := own_get hown i hi2
          have cb := hacc.out.bd hi2 (HBD.out i) hTl
          have cf := hown.frozenAt i
          have HC2 := Lib.hid (hacc.out.step hlt2 hi1 hi2)
          have HB2 := Lib.hid (hbel.setCell (Nat.le_refl _) (p := ⟨g, i, none⟩) (.int .i64 (c.getD i 0 + 1)))
          have HO3 := Lib.hid (own_set hown i (c.getD i 0 + 1))
          have HO4 := Lib.hid (own_store hownT (a := ⟨g, i, none⟩) hgr (.int .i64 (c.getD i 0 + 1)))
          clear hi1 hi3 hown hbel hacc hownT
          generalize c.getD i 0 = x at *
          go_wp2_with fail
          go_roundw
          case rel => exact ⟨k + 1, _, by omega, by go_num, HO3.out, HO4.out, HC2.out, HB2.out⟩
          case measure => simp [intOf]; omega
        · obtain rfl : k = T.length := by omega
          have HAcc : Hid (Acc c (A zs many (s + 1)) [] 0 zs.length) := hacc.out.next HTT.out.symm
          clear hownT hacc
          go_wp2_with fail
          go_roundw
          case rel => exact ⟨s + 1, c, by omega, by go_num, hown, HAcc.out, hbel⟩
          case measure => simp [intOf]; omega
    · obtain rfl : s = S := by omega
      have HF : Hid (∀ k, k < zs.length → c.getD k 0 = zs.getD k 0 * many) := fun k hk => by
        have := hacc.out.2 k hk
        rw [A_all zs many k hk HG.out.2.2.2.1 (by omega) s HS.out hS0] at this
        simpa using this
      have HO := Lib.hid hown
      have hgl := (own_lt hown).2
      clear hown hacc
      go_wp2_with fail
      obtain ⟨wo, rfl⟩ : ∃ wo : World, wo = wr := ⟨_, rfl⟩
      go_loopw [13, 75] (fun al i wq => ∃ k : Nat, k ≤ zs.length ∧ i = .int .i64 k ∧ al = .int .i64 (E zs many k) ∧ wq = wo) (fun _ i _ => zs.length - (intOf i).toNat)
      case atStart => exact ⟨0, Nat.zero_le _, rfl, by simp [E], rfl⟩
      case round =>
        obtain ⟨k, hk, rfl, rfl, rfl⟩ := hrel
        have hE := E_bd zs many k hl400 HG.out.2.2.2.1 (by omega) HG.out.2.2.1
        by_cases hlt2 : k < zs.length
        · have HRw := Lib.hid ((HR.out.below hb1 (Nat.le_refl _)).below hbel (Nat.le_of_eq HGG.out))
          have hE2 := E_bd zs many (k + 1) hl400 HG.out.2.2.2.1 (by omega) HG.out.2.2.1
          rw [E_succ zs many k hlt2] at hE2
          have HE := Lib.hid (E_succ zs many k hlt2)
          have c2 := own_get HO.out k hlt2
          rw [HF.out k hlt2] at c2
          have HSh := Lib.hid (fun w h => share_good (.slice a zs.length cap) zs many k w h HG.out hlt2)
          have hself : (zs.getD k 0 * many != zs.getD k 0 * many) = false := by simp
          generalize zs.getD k 0 * many = y at *
          generalize E zs many k = ek at *
          go_wp2_with fail
          refine (HSh.out _ HRw.out).mono ?_
          rintro e w6 ⟨rfl, rfl⟩
          go_wp2_with fail
          go_roundw
          case rel => exact ⟨k + 1, by omega, by go_num, by rw [HE.out], trivial⟩
          case measure => simp [intOf]; omega
        · obtain rfl : k = zs.length := by omega
          have he : E zs many zs.length = s * many := by unfold E; rw [List.take_length, HS.out]
          have hmb := hE
          rw [he] at hmb ⊢
          go_wp2_with fail
          go_ret
          exact ⟨by simp, hb1.trans (hbel.mono (by rw [← HGG.out]; exact hb1.size))⟩
theorem walk (a0 : Option Addr) (len0 cap0 : Nat) (z0 : List Int) (a1 : Int) (w : World) (w0 : IsRow .i64 w a0 len0 cap0 z0) (w1 : (Lit.int .i64 a1).wf = true) :
    Calls Try.prog 5 #[.slice a0 len0 cap0, .int .i64 a1] w fun e w' => e = .returned (.bool true) ∧ Below w.heap.size w w' := by
  have h := w0.rd.1
  by_cases hg : Good (z0.take len0) a1
  · by_cases hx : 300 < (z0.take len0).sum ∨ 20 < a1
    · exact walk_big _ _ _ w h hg hx
    · have hs := sum_bd _ hg.2.2.2.1
      exact walk_good _ _ _ w h hg (z0.take len0).sum.toNat (by omega) (by omega) (by omega)
  · exact walk_bad _ _ _ w h hg
end Go.Proofs.Ythkbcgafpaomnaa.ppsJust
