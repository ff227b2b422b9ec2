/- The walk of BayesScale. No condition. -/
import Derived.Test.YtmhkbcfdcbbdgaaScaleL
import Derived.Test.YtmhkbcfdcbbdgaaGrow
import Derived.Test.YtmhkbcfdcbbdgaaMatR
set_option linter.unusedSimpArgs false
set_option linter.unusedVariables false
namespace Go.Proofs.Ytmhkbcfdcbbdgaa.bayesScale
open Go.RowKit Go.Proofs.Ytmhkbcfdcbbdgaa
theorem oc_keepAt {w w' : World} {base B g n cap : Nat} {f : Nat → Nat} (h : OC w base g n cap f) (hb : Below B w w') (hg : g < B) : OC w' base g n cap f := by
  refine ⟨h.1, ?_⟩
  rcases h.2 with hn | ⟨g', cap, cur, heq, hbs, hgg, rest⟩
  · exact .inl hn
  · refine .inr ⟨g', cap, cur, heq, hbs, ?_, rest⟩
    cases heq
    rw [hb.block g hg]
    exact hgg
theorem ups_take (zss : List (List Int)) (s b k : Nat) (hk : k < zss.length) : (ups zss s b).take (k + 1) = (ups zss s b).take k ++ [up (zss.getD k []) s b] := by
  rw [List.take_add_one, ← ups_get, List.getD_eq_getElem?_getD, List.getElem?_eq_getElem (by rw [ups_len]; exact hk)]
  rfl
set_option maxHeartbeats 3200000 in
set_option maxRecDepth 20000 in
theorem walk_ok (v v2 v3 : Value) (zs : List Int) (zss : List (List Int)) (ns : List Int) (s b : Nat) (w : World) (h : Rd w v zs) (h2 : RdM w v2 zss) (h3 : Rd w v3 ns) (hrr : ∀ k, (zss.getD k []).length * 8 ≤ 140737488351232)
    (hok : OkB zs zss) (hs : s < (zss.getD 0 []).length) (hb0 : 0 < b) (hb9 : b ≤ 9) :
    Calls Try.prog 5 #[v, v2, v3, .int .i64 s, .int .i64 b] w fun e w' => e = .returned (.bool true) ∧ Below w.heap.size w w' := by
  have HW := Lib.hid (fun w h h2 => wrong_any v v2 zs zss w h h2)
  rw [wrF_zero.2 hok] at HW
  have HS := Lib.hid (fun v zs v2 zss w h h2 h3 => see_any v v2 v3 zs zss ns w h h2 h3)
  have HP := Lib.hid (prior_same ns hb0 hok)
  have HG := Lib.hid (signs_same ns hb0 hok hs)
  have HR := Lib.hid h
  have HR2 := Lib.hid h2
  have HR3 := Lib.hid h3
  have HOK := Lib.hid hok
  have HND := Lib.hid (nd_le hok)
  have HTN := Lib.hid (tab_nd (zs := zs) fun i hi => (hok.2.2.2 i hi).1)
  have HRL : Hid (∀ k, k < zs.length → (zss.getD k []).length = (zss.getD 0 []).length) := fun k hk => (HOK.out.2.2.2 k hk).2.2.1
  have HSC := Lib.hid (fun k hk => sg_cell (k := k) (s := s) HOK.out hk hs)
  have HSG := Lib.hid (sg_le hok)
  have HCL := Lib.hid (fun v zs w h hb => clone_any v zs w h hb)
  have HRR := Lib.hid hrr
  have HSL : Hid (∀ k, k < zs.length → s < (zss.getD k []).length) := fun k hk => by rw [HRL.out k hk]; exact hs
  obtain ⟨hl1, hn1, hn2, -⟩ := hok
  obtain ⟨a2, cap2, rfl, hlc2, hcm2, hop2⟩ := h2.open
  obtain ⟨b2, off2, U, rfl, hbl2, hc2⟩ := hop2 (by omega)
  have HC2 := Lib.hid hc2
  have d0 := (hc2 0 (by omega)).1
  rw [Nat.add_zero] at d0
  obtain ⟨a0, q0, hu0, -, -, -⟩ := (hc2 0 (by omega)).2.open
  rw [hu0] at d0
  obtain ⟨n0, hn0⟩ : ∃ n0, (zss.getD 0 []).length = n0 := ⟨_, rfl⟩
  rw [hn0] at hs d0 HRL
  have HN0 := Lib.hid hn0
  obtain ⟨n, hn⟩ : ∃ n, zs.length = n := ⟨_, rfl⟩
  have hn' := hl1.symm.trans hn
  rw [hn] at hn1 hn2 HRL HSC HTN HP HG HSL
  rw [hn'] at HC2 hlc2 HR2 HW ⊢
  have HLN := Lib.hid hn
  have HLN2 := Lib.hid hn'
  have HD0 := Lib.hid d0
  have HSW : Hid (s < n0) := hs
  clear h h2 h3 hrr hl1 hop2 hc2 hu0 hn0 hn hn' d0
  go_enter Try.func5, Try.ntmps5
  go_wp2_with fail
  refine (alive_any _).mono ?_
  rintro e w1 ⟨rfl, hb1⟩
  have HB1 := Lib.hid hb1
  have HA1 := Lib.hid (HR.out.below hb1 (Nat.le_refl _))
  have HA2 := Lib.hid (HR2.out.below hb1 (Nat.le_refl _))
  have HA3 := Lib.hid (HR3.out.below hb1 (Nat.le_refl _))
  clear hb1
  go_wp2_with fail
  refine (HW.out _ HA1.out HA2.out).mono ?_
  rintro e w2 ⟨rfl, q, rfl⟩
  have HBq : Hid (Below w1.heap.size w1 (w1.drewN q)) := (Below.refl _ _).drewN q
  have HSq : Hid ((w1.drewN q).heap.size = w1.heap.size) := rfl
  have HE1 := Lib.hid (HA1.out.below HBq.out (Nat.le_refl _))
  have HE2 := Lib.hid (HA2.out.below HBq.out (Nat.le_refl _))
  have HE3 := Lib.hid (HA3.out.below HBq.out (Nat.le_refl _))
  have HB2 := Lib.hid (HB1.out.trans (HBq.out.mono HB1.out.size))
  have d0 := (World.cell?_of_block (HB2.out.block b2 hbl2)).trans HD0.out
  clear HW HA1 HA2 HA3
  generalize w1.drewN q = w2 at *
  have g1 : ((n0 : Int) ≤ (s : Int)) = False := eq_false (by omega)
  have g2 : (n0 ≤ s) = False := eq_false (by omega)
  go_wp2_with fail
  refine (HCL.out v zs w2 HE1.out (by rw [HLN.out]; omega)).mono ?_
  rintro e w3 ⟨vp, rfl, ho3, hb3⟩
  rw [HLN.out] at ho3
  obtain ⟨g, c9, rfl, h9, h91, h92, h93, -⟩ := own_open ho3 (by omega)
  unfold maxLen at h91
  have HO3 : Hid (OC w3 w2.heap.size g n c9 (nd zs)) := by
    show OC _ _ _ _ _ _
    unfold OC
    have e := HTN.out
    rw [← e]
    exact ho3
  have HB3 := Lib.hid hb3
  have HF1 := Lib.hid (HE1.out.below hb3 (Nat.le_refl _))
  have HF2 := Lib.hid (HE2.out.below hb3 (Nat.le_refl _))
  have HF3 := Lib.hid (HE3.out.below hb3 (Nat.le_refl _))
  have HB33 := Lib.hid (HB2.out.trans (hb3.mono HB2.out.size))
  clear ho3 hb3 d0 g1 g2 HF1 HF2 HF3
  go_wp2_with fail
  go_loopw [51, 12, 13, 14] (fun iv mv _ _ wr => ∃ k : Nat, k ≤ n ∧ iv = .int .i64 k ∧ Below w2.heap.size w3 wr ∧ OC wr w2.heap.size g n c9 (fun j => if j < k then nd zs j * b else nd zs j) ∧ OM wr (g + 1) mv ((ups zss s b).take k)) (fun iv _ _ _ _ => n - (intOf iv).toNat)
  case atStart => exact ⟨0, Nat.zero_le _, rfl, Below.refl _ _, HO3.out.congr (fun j _ => by rw [if_neg (by omega)]), OM.nil _ _⟩
  case round =>
    clear HO3
    obtain ⟨k, hk, rfl, hbel, ho, hm⟩ := hrel
    by_cases hlt : k < n
    · have cp := ho.get k hlt
      rw [if_neg (Nat.lt_irrefl k)] at cp
      have cf := ho.frozen k
      have hx := HND.out k
      have hxb := Nat.mul_le_mul hx hb9
      have HST := Lib.hid (ho.set k (nd zs k * b))
      have HBS := Lib.hid (hbel.setCell (show w2.heap.size ≤ (⟨g, k, none⟩ : Addr).block from h92) (.int .i64 ((nd zs k * b : Nat) : Int)))
      have HMS := Lib.hid (hm.store (show (⟨g, k, none⟩ : Addr).block < g + 1 from Nat.lt_succ_self g) (.int .i64 ((nd zs k * b : Nat) : Int)))
      have hpr : (nd zs k : Int) * (b : Int) = ((nd zs k * b : Nat) : Int) := rfl
      have HZ : Hid (∃ z, z = nd zs k * b) := ⟨_, rfl⟩
      clear ho hbel hm
      generalize hz : nd zs k * b = z at *
      have HZZ := Lib.hid hz
      clear hz HZ
      generalize hxx : nd zs k = x at *
      have HXX := Lib.hid hxx
      clear hxx
      have HBW : Hid (Below w.heap.size w (wr.setCell ⟨g, k, none⟩ (.int .i64 (z : Int)))) := HB33.out.trans (HBS.out.mono HB2.out.size)
      have d1 := (World.cell?_of_block (HBW.out.block b2 hbl2)).trans (HC2.out k hlt).1
      have HRU := Lib.hid ((HC2.out k hlt).2.below HBW.out (Nat.le_refl _))
      have HGS : Hid (g < (wr.setCell ⟨g, k, none⟩ (.int .i64 (z : Int))).heap.size) := HST.out.lt.2
      go_wp2_with fail
      clear d1 cp cf hpr
      generalize wr.setCell ⟨g, k, none⟩ (.int .i64 (z : Int)) = wS at *
      refine (HCL.out (U k) _ wS HRU.out (by have := HRR.out k; omega)).mono ?_
      rintro e w6 ⟨vr, rfl, ho6, hb6⟩
      rw [HRL.out k hlt] at ho6
      obtain ⟨hh, c6, rfl, h69, h691, h692, h693, -⟩ := own_open ho6 (by omega)
      unfold maxLen at h691
      have cr := own_get ho6 s HSW.out
      have fr := World.ownsRow.frozenAt ho6 s
      rw [HSC.out k hlt] at cr
      have hy := HSG.out k s
      have hyb := Nat.mul_le_mul hy hb9
      have hpr : (sg zss k s : Int) * (b : Int) = ((sg zss k s * b : Nat) : Int) := rfl
      have HRA : Hid (RowAt (w6.setCell ⟨hh, s, none⟩ (.int .i64 ((sg zss k s * b : Nat) : Int))) wS.heap.size (.slice (some ⟨hh, 0, none⟩) n0 c6) (up (zss.getD k []) s b)) := by
        have := RowAt.own (own_set ho6 s ((sg zss k s * b : Nat) : Int))
        rw [show ((sg zss k s * b : Nat) : Int) = (zss.getD k []).getD s 0 * b by rw [HSC.out k hlt]; rfl] at this ⊢
        exact this
      have HB7 : Hid (Below wS.heap.size wS (w6.setCell ⟨hh, s, none⟩ (.int .i64 ((sg zss k s * b : Nat) : Int)))) := hb6.setCell h692 _
      clear ho6 hb6
      generalize sg zss k s * b = y2 at *
      generalize sg zss k s = y at *
      have HM7 := Lib.hid (HMS.out.below HB7.out (Nat.le_refl _))
      have HO7 := Lib.hid (HST.out.below HB7.out (Nat.le_refl _))
      have hsz7 := HB7.out.size
      have HRA2 := Lib.hid (HRA.out.lower (show g + 1 ≤ wS.heap.size from HGS.out))
      have HLK := Lib.hid (show ((ups zss s b).take k).length = k by rw [List.length_take, ups_len, HLN2.out]; omega)
      have HTK := Lib.hid (ups_take zss s b k (by rw [HLN2.out]; exact hlt))
      have HB77 := Lib.hid (HBS.out.trans (HB7.out.mono (Nat.le_trans HB3.out.size HBS.out.size)))
      go_wp2_with (at_builtin; go_must (refine push_row rfl _ _ rfl (g + 1) _ _ rfl HM7.out _ _ HRA2.out _ rfl (by simp) ?h63 ?hbs ?_))
      case h63 => rw [HLK.out]; omega
      case hbs => have := HGS.out; omega
      intro v' w8 hm8 hb8
      rw [← List.getD_eq_getElem?_getD, ← HTK.out] at hm8
      have HM8 := Lib.hid hm8
      have HO8 := Lib.hid (oc_keepAt HO7.out hb8 (Nat.lt_succ_self g))
      have HB8 := Lib.hid (HB77.out.trans (hb8.mono (show w2.heap.size ≤ g + 1 by omega)))
      clear hm8 hb8 cr fr hpr
      go_wp2_with fail
      go_roundw
      case rel =>
        refine ⟨k + 1, by omega, by go_num, HB8.out, HO8.out.congr (fun j hj => ?_), HM8.out⟩
        by_cases e1 : j = k
        · subst e1; rw [if_pos rfl, if_pos (by omega), ← HZZ.out, HXX.out]
        · rw [if_neg e1]
          by_cases e2 : j < k
          · rw [if_pos e2, if_pos (by omega)]
          · rw [if_neg e2, if_neg (by omega)]
      case measure => simp [intOf]; omega
    · obtain rfl : k = n := by omega
      rw [show (ups zss s b).take k = ups zss s b from List.take_of_length_le (by rw [ups_len, HLN2.out]; exact Nat.le_refl _)] at hm
      have HPR := Lib.hid (ho.congr (f' := fun j => nd zs j * b) (fun j hj => by rw [if_pos hj])).rd
      have HMR := Lib.hid hm.rd
      have hb2r := HB3.out.trans hbel
      have HQ1 := Lib.hid (HE1.out.below hb2r (Nat.le_refl _))
      have HQ2 := Lib.hid (HE2.out.below hb2r (Nat.le_refl _))
      have HQ3 := Lib.hid (HE3.out.below hb2r (Nat.le_refl _))
      have HBR := Lib.hid (HB2.out.trans (hb2r.mono HB2.out.size))
      obtain ⟨L1, hL1⟩ : ∃ L, L = (if seeE zs zss ns = 0 then tabI zs.length (seeT zs zss ns) else []) := ⟨_, rfl⟩
      have P2 : Hid (seeE (tabI k (fun j => nd zs j * b)) zss ns = 2 ∨ (seeE zs zss ns = seeE (tabI k (fun j => nd zs j * b)) zss ns ∧ (if seeE (tabI k (fun j => nd zs j * b)) zss ns = 0 then tabI (tabI k (fun j => nd zs j * b)).length (seeT (tabI k (fun j => nd zs j * b)) zss ns) else []) = L1)) := by
        obtain ⟨h1, h2⟩ := HP.out
        rcases h1 with h1 | h1
        · exact .inl h1
        · refine .inr ⟨h1, ?_⟩
          rw [hL1, ← h1, tabI_len, h2, HLN.out]
      have P3 : Hid (seeE zs (ups zss s b) ns = 2 ∨ (seeE zs zss ns = seeE zs (ups zss s b) ns ∧ (if seeE zs (ups zss s b) ns = 0 then tabI zs.length (seeT zs (ups zss s b) ns) else []) = L1)) := by
        obtain ⟨h1, h2⟩ := HG.out
        rcases h1 with h1 | h1
        · exact .inl h1
        · refine .inr ⟨h1, ?_⟩
          rw [hL1, ← h1, HLN.out, h2]
      have HL1 := Lib.hid hL1
      have hle1 := seeE_le zs zss ns
      have hle2 := seeE_le (tabI k (fun j => nd zs j * b)) zss ns
      have hle3 := seeE_le zs (ups zss s b) ns
      clear ho hm hbel hb2r hL1 HP HG
      go_wp2_with fail
      refine (HS.out _ _ _ _ _ HQ1.out HQ2.out HQ3.out).mono ?_
      rintro e w4 ⟨hb4, hp4⟩
      obtain ⟨u1, rfl, hu1⟩ := see_post hp4
      rw [← HL1.out] at hu1
      have HU1 := Lib.hid hu1
      have HB4 := Lib.hid (HBR.out.trans (hb4.mono HBR.out.size))
      have HQ14 := Lib.hid (HQ1.out.below hb4 (Nat.le_refl _))
      have HQ24 := Lib.hid (HQ2.out.below hb4 (Nat.le_refl _))
      have HQ34 := Lib.hid (HQ3.out.below hb4 (Nat.le_refl _))
      have HPR4 := Lib.hid (HPR.out.below hb4 (Nat.le_refl _))
      have HMR4 := Lib.hid (HMR.out.below hb4 (Nat.le_refl _))
      clear hb4 hp4 hu1
      go_wp2_with fail
      refine (HS.out _ _ _ _ _ HPR4.out HQ24.out HQ34.out).mono ?_
      rintro e w5 ⟨hb5, hp5⟩
      obtain ⟨u2, rfl, hu2⟩ := see_post hp5
      have HU2 := Lib.hid hu2
      have HB5 := Lib.hid (HB4.out.trans (hb5.mono HB4.out.size))
      have HQ15 := Lib.hid (HQ14.out.below hb5 (Nat.le_refl _))
      have HQ35 := Lib.hid (HQ34.out.below hb5 (Nat.le_refl _))
      have HMR5 := Lib.hid (HMR4.out.below hb5 (Nat.le_refl _))
      have HU15 := Lib.hid (HU1.out.below hb5 (Nat.le_refl _))
      clear hb5 hp5 hu2
      go_wp2_with fail
      refine (HS.out _ _ _ _ _ HQ15.out HMR5.out HQ35.out).mono ?_
      rintro e w6 ⟨hb6, hp6⟩
      obtain ⟨u3, rfl, hu3⟩ := see_post hp6
      have HB6 := Lib.hid (HB5.out.trans (hb6.mono HB5.out.size))
      have HV1 := Lib.hid (HU15.out.below hb6 (Nat.le_refl _))
      have HV2 := Lib.hid (HU2.out.below hb6 (Nat.le_refl _))
      have HV3 := Lib.hid hu3
      clear hb6 hp6 hu3
      generalize (if seeE zs (ups zss s b) ns = 0 then tabI zs.length (seeT zs (ups zss s b) ns) else []) = L3 at *
      generalize (if seeE (tabI k (fun j => nd zs j * b)) zss ns = 0 then tabI (tabI k (fun j => nd zs j * b)).length (seeT (tabI k (fun j => nd zs j * b)) zss ns) else []) = L2 at *
      generalize seeE zs (ups zss s b) ns = e3 at *
      generalize seeE (tabI k (fun j => nd zs j * b)) zss ns = e2 at *
      generalize seeE zs zss ns = e1 at *
      clear HS HL1 HPR HMR HQ1 HQ2 HQ3 HQ14 HQ24 HQ34 HPR4 HMR4 HQ15 HQ35 HMR5 HU1 HU15 HU2
      have hp2 := P2.out
      have hp3 := P3.out
      clear P2 P3
      by_cases c2 : e2 = 2
      · subst c2
        by_cases c3 : e3 = 2
        · subst c3
          clear hp2 hp3
          go_wp2_with fail
          go_ret
          exact ⟨by simp, HB6.out⟩
        · obtain ⟨rfl, rfl⟩ : e1 = e3 ∧ L3 = L1 := hp3.resolve_left c3
          have f1 : ((e1 : Int) == 2) = false := by rw [beq_eq_false_iff_ne]; omega
          clear hp2 hp3 c3
          go_wp2_with fail
          refine (equal_any _ _ _ _ _ HV1.out HV3.out).mono ?_
          rintro e w7 ⟨rfl, hb7⟩
          have HB7 := Lib.hid (HB6.out.trans (hb7.mono HB6.out.size))
          clear hb7
          go_wp2_with fail
          go_ret
          exact ⟨by simp, HB7.out⟩
      · obtain ⟨rfl, rfl⟩ : e1 = e2 ∧ L2 = L1 := hp2.resolve_left c2
        have f1 : ((e1 : Int) == 2) = false := by rw [beq_eq_false_iff_ne]; omega
        by_cases c3 : e3 = 2
        · subst c3
          clear hp2 hp3 c2
          go_wp2_with fail
          refine (equal_any _ _ _ _ _ HV1.out HV2.out).mono ?_
          rintro e w7 ⟨rfl, hb7⟩
          have HB7 := Lib.hid (HB6.out.trans (hb7.mono HB6.out.size))
          clear hb7
          go_wp2_with fail
          go_ret
          exact ⟨by simp, HB7.out⟩
        · obtain ⟨rfl, rfl⟩ : e1 = e3 ∧ L3 = L2 := hp3.resolve_left c3
          clear hp2 hp3 c2 c3
          go_wp2_with fail
          refine (equal_any _ _ _ _ _ HV1.out HV2.out).mono ?_
          rintro e w7 ⟨rfl, hb7⟩
          have HB7 := Lib.hid (HB6.out.trans (hb7.mono HB6.out.size))
          have HV17 := Lib.hid (HV1.out.below hb7 (Nat.le_refl _))
          have HV37 := Lib.hid (HV3.out.below hb7 (Nat.le_refl _))
          clear hb7
          go_wp2_with fail
          refine (equal_any _ _ _ _ _ HV17.out HV37.out).mono ?_
          rintro e w8 ⟨rfl, hb8⟩
          have HB8 := Lib.hid (HB7.out.trans (hb8.mono HB7.out.size))
          clear hb8
          go_wp2_with fail
          go_ret
          exact ⟨by simp, HB8.out⟩
set_option maxHeartbeats 1600000 in
theorem walk_not (v v2 v3 : Value) (zs : List Int) (zss : List (List Int)) (s b : Int) (w : World) (h : Rd w v zs) (h2 : RdM w v2 zss)
    (hno : ¬ OkB zs zss ∨ b < 1 ∨ 9 < b ∨ s < 0 ∨ ((zss.getD 0 []).length : Int) ≤ s) :
    Calls Try.prog 5 #[v, v2, v3, .int .i64 s, .int .i64 b] w fun e w' => e = .returned (.bool true) ∧ Below w.heap.size w w' := by
  have HW := Lib.hid (fun w h h2 => wrong_any v v2 zs zss w h h2)
  have HR := Lib.hid h
  have HR2 := Lib.hid h2
  by_cases hok : OkB zs zss
  · rw [wrF_zero.2 hok] at HW
    have hno := hno.resolve_left (fun h => h hok)
    obtain ⟨hl1, hn1, hn2, -⟩ := hok
    obtain ⟨a2, cap2, rfl, hlc2, hcm2, hop2⟩ := h2.open
    obtain ⟨b2, off2, U, rfl, hbl2, hc2⟩ := hop2 (by omega)
    have d0 := (hc2 0 (by omega)).1
    rw [Nat.add_zero] at d0
    obtain ⟨a0, q0, hu0, -, -, -⟩ := (hc2 0 (by omega)).2.open
    rw [hu0] at d0
    generalize (zss.getD 0 []).length = n0 at *
    have hn' := hl1.symm.trans (rfl : zs.length = zs.length)
    rw [hn'] at hlc2 HR2 HW ⊢
    have HD0 := Lib.hid d0
    clear h h2 hl1 hop2 hc2 hu0 d0 hn'
    generalize zs.length = n at *
    go_enter Try.func5, Try.ntmps5
    go_wp2_with fail
    refine (alive_any _).mono ?_
    rintro e w1 ⟨rfl, hb1⟩
    have HB1 := Lib.hid hb1
    have HA1 := Lib.hid (HR.out.below hb1 (Nat.le_refl _))
    have HA2 := Lib.hid (HR2.out.below hb1 (Nat.le_refl _))
    clear hb1
    go_wp2_with fail
    refine (HW.out _ HA1.out HA2.out).mono ?_
    rintro e w2 ⟨rfl, q, rfl⟩
    have HBq : Hid (Below w1.heap.size w1 (w1.drewN q)) := (Below.refl _ _).drewN q
    have HB2 := Lib.hid (HB1.out.trans (HBq.out.mono HB1.out.size))
    have d0 := (World.cell?_of_block (HB2.out.block b2 hbl2)).trans HD0.out
    clear HW HA1 HA2
    generalize w1.drewN q = w2 at *
    by_cases k1 : b < 1
    · have f1 : decide (b < 1) = true := decide_eq_true k1
      clear hno
      go_wp2_with fail
      go_ret
      exact ⟨rfl, HB2.out⟩
    · have f1 : decide (b < 1) = false := decide_eq_false k1
      by_cases k2 : 9 < b
      · have f2 : decide (9 < b) = true := decide_eq_true k2
        clear hno
        go_wp2_with fail
        go_ret
        exact ⟨rfl, HB2.out⟩
      · have f2 : decide (9 < b) = false := decide_eq_false k2
        by_cases k3 : s < 0
        · have f3 : decide (s < 0) = true := decide_eq_true k3
          clear hno
          go_wp2_with fail
          go_ret
          exact ⟨rfl, HB2.out⟩
        · have f3 : decide (s < 0) = false := decide_eq_false k3
          have f4 : decide ((n0 : Int) ≤ s) = true := decide_eq_true (by omega)
          clear hno
          go_wp2_with fail
          go_ret
          exact ⟨rfl, HB2.out⟩
  · have hw : wrF zs zss ≠ 0 := fun h => hok (wrF_zero.1 h)
    have hle := wrF_le zs zss
    generalize wrF zs zss = x at *
    have f1 : ((x : Int) == 0) = false := by rw [beq_eq_false_iff_ne]; omega
    clear h h2 hno hok
    go_enter Try.func5, Try.ntmps5
    go_wp2_with fail
    refine (alive_any _).mono ?_
    rintro e w1 ⟨rfl, hb1⟩
    have HB1 := Lib.hid hb1
    have HA1 := Lib.hid (HR.out.below hb1 (Nat.le_refl _))
    have HA2 := Lib.hid (HR2.out.below hb1 (Nat.le_refl _))
    clear hb1
    go_wp2_with fail
    refine (HW.out _ HA1.out HA2.out).mono ?_
    rintro e w2 ⟨rfl, q, rfl⟩
    have HBq : Hid (Below w1.heap.size w1 (w1.drewN q)) := (Below.refl _ _).drewN q
    have HB2 := Lib.hid (HB1.out.trans (HBq.out.mono HB1.out.size))
    clear HW HA1 HA2
    generalize w1.drewN q = w2 at *
    go_wp2_with fail
    go_ret
    exact ⟨rfl, HB2.out⟩
theorem walk (a0 : Option Addr) (len0 cap0 : Nat) (z0 : List Int) (x1 : Option Addr × Nat × Nat × List (List Int)) (a2 : Option Addr) (len2 cap2 : Nat) (z2 : List Int) (s b : Int) (w : World) (w0 : IsRow .i64 w a0 len0 cap0 z0) (w1 : RdM w (.slice x1.1 x1.2.1 x1.2.2.1) x1.2.2.2) (r1 : ∀ k, (x1.2.2.2.getD k []).length * 8 ≤ 140737488351232) (w2 : IsRow .i64 w a2 len2 cap2 z2) (_ : (Lit.int .i64 s).wf = true) (_ : (Lit.int .i64 b).wf = true) :
    Calls Try.prog 5 #[.slice a0 len0 cap0, .slice x1.1 x1.2.1 x1.2.2.1, .slice a2 len2 cap2, .int .i64 s, .int .i64 b] w fun e w' => e = .returned (.bool true) ∧ Below w.heap.size w w' := by
  by_cases h : OkB (z0.take len0) x1.2.2.2 ∧ 1 ≤ b ∧ b ≤ 9 ∧ 0 ≤ s ∧ s < ((x1.2.2.2.getD 0 []).length : Int)
  · obtain ⟨h1, h2, h3, h4, h5⟩ := h
    obtain ⟨s', rfl⟩ : ∃ n : Nat, s = n := ⟨s.toNat, by omega⟩
    obtain ⟨b', rfl⟩ : ∃ n : Nat, b = n := ⟨b.toNat, by omega⟩
    exact walk_ok _ _ _ _ _ _ s' b' w w0.rd.1 w1 w2.rd.1 r1 h1 (by omega) (by omega) (by omega)
  · refine walk_not _ _ _ _ _ s b w w0.rd.1 w1 ?_
    by_cases h1 : OkB (z0.take len0) x1.2.2.2
    · right
      rcases Int.lt_or_le b 1 with c | c
      · exact .inl c
      rcases Int.lt_or_le 9 b with c2 | c2
      · exact .inr (.inl c2)
      rcases Int.lt_or_le s 0 with c3 | c3
      · exact .inr (.inr (.inl c3))
      refine .inr (.inr (.inr ?_))
      rcases Int.lt_or_le s ((x1.2.2.2.getD 0 []).length : Int) with c4 | c4
      · exact absurd ⟨h1, c, c2, c3, c4⟩ h
      · exact c4
    · exact .inl h1
end Go.Proofs.Ytmhkbcfdcbbdgaa.bayesScale
